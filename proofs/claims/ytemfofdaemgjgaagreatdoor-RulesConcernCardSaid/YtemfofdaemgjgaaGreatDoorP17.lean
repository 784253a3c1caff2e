/-
  A part of the proof of RulesConcern: C1, C2, C3.
-/
import Derived.Test.YtemfofdaemgjgaaGreatDoorP16
set_option linter.unusedSimpArgs false
set_option linter.unusedVariables false
section
set_option linter.unusedSimpArgs false
set_option linter.unusedVariables false
set_option maxRecDepth 100000
namespace Go.Proofs.YtemfofdaemgjgaaGreatDoor
open Go Go.Abs Go.Proofs
abbrev Str:=List UInt8
def around (n k:Int):Int:=(if n<0 then -(n+1) else n).tmod k
def atZ (l:List Int) (i k:Int):Int:=if i<0∨(l.length:Int)≤i then 0 else around (l.getD i.toNat 0) k
def idxI {α:Type} [BEq α] (x:α):List α→Nat→Int
 | [],_=>-1
 | a :: l,i=>if a==x then i else idxI x l (i+1)
theorem idxI_contains {α:Type} [BEq α] [LawfulBEq α] (x:α):∀ (l:List α) (i:Nat),decide (0≤idxI x l i)=l.contains x
 | [],i=>by simp[idxI]
 | a :: l,i=>by
  unfold idxI
  by_cases h:a=x
  ·subst h;simp
  ·have h' : (a==x)=false:=by simpa using h
   have h2:(x==a)=false:=by simpa using fun e=>h e.symm
   rw[h',List.contains_cons,h2,Bool.false_or]
   exact idxI_contains x l (i+1)
theorem around_D (n k:Int) (H:AHeap) (hn:I64 n) (hk:0<k):callD A 9 [.int .i64 n,.int .i64 k] H=some (.int .i64 (around n k),none):=by
 obtain⟨h1,h2⟩:=hn
 have hk' : k≠0:=by omega
 refine callD_W (fn:=ir9) rfl rfl rfl ?_
 unfold ir9;dsimp only[oQ,oP,iR,oM,oT,oL,oG,oH,oI,oF,oX,oA,oN,oS,oB,oR,oK,oC,iT,iC,iZ,iE]
 simp (disch:=omega) only[evB,↓reduceIte,Nat.reduceEqDiff,Nat.reduceBEq,Nat.reduceAdd,Nat.reduceMul,reduceCtorEq,Nat.reduceLeDiff,Int.reduceEq,Int.reduceLT,Int.reduceLE,Int.reduceBEq,Int.reduceBNe,Int.reduceAdd,Int.reduceNeg,Int.reduceSub,Int.reduceMul]
 refine condW_dec ?_ ?_<;>intro h
 ·simp (disch:=omega) only[evB,↓reduceIte,Nat.reduceEqDiff,Nat.reduceBEq,Nat.reduceAdd,Nat.reduceMul,reduceCtorEq,Nat.reduceLeDiff,Int.reduceEq,Int.reduceLT,Int.reduceLE,Int.reduceBEq,Int.reduceBNe,Int.reduceAdd,Int.reduceNeg,Int.reduceSub,Int.reduceMul,hk',around,if_pos h]
  simp only[show 0-(n+1)=-(n+1) by omega]
 ·simp (disch:=omega) only[evB,↓reduceIte,Nat.reduceEqDiff,Nat.reduceBEq,Nat.reduceAdd,Nat.reduceMul,reduceCtorEq,Nat.reduceLeDiff,Int.reduceEq,Int.reduceLT,Int.reduceLE,Int.reduceBEq,Int.reduceBNe,Int.reduceAdd,Int.reduceNeg,Int.reduceSub,Int.reduceMul,hk',around,if_neg h]
theorem at_D (l:List Int) (i k:Int) (H:AHeap) (hl:∀ n∈l,I64 n) (hk:0<k):callD A 16 [.slice (ints l) false,.int .i64 i,.int .i64 k] H=some (.int .i64 (atZ l i k),none):=by
 refine callD_W (fn:=ir16) rfl rfl rfl ?_
 unfold ir16;dsimp only[oQ,oP,iR,oM,oT,oL,oG,oH,oI,oF,oX,oA,oN,oS,oB,oR,oK,oC,iT,iC,iZ,iE]
 by_cases h0:i<0
 ·simp (disch:=omega) only[evB,↓reduceIte,Nat.reduceEqDiff,Nat.reduceBEq,Nat.reduceAdd,Nat.reduceMul,reduceCtorEq,Nat.reduceLeDiff,Int.reduceEq,Int.reduceLT,Int.reduceLE,Int.reduceBEq,Int.reduceBNe,Int.reduceAdd,Int.reduceNeg,Int.reduceSub,Int.reduceMul,h0,atZ,true_or,if_true]
 by_cases h1:(l.length:Int)≤i
 ·simp (disch:=omega) only[evB,↓reduceIte,Nat.reduceEqDiff,Nat.reduceBEq,Nat.reduceAdd,Nat.reduceMul,reduceCtorEq,Nat.reduceLeDiff,Int.reduceEq,Int.reduceLT,Int.reduceLE,Int.reduceBEq,Int.reduceBNe,Int.reduceAdd,Int.reduceNeg,Int.reduceSub,Int.reduceMul,h0,h1,ints_len,ge_iff_le,atZ,or_true,if_true]
 ·have hi:i.toNat<l.length:=by omega
  have hg:l[i.toNat]?=some (l.getD i.toNat 0):=by rw[List.getD_eq_getElem?_getD,List.getElem?_eq_getElem hi];rfl
  have hr:I64 (l.getD i.toNat 0):=hl _ (by rw[List.getD_eq_getElem?_getD,List.getElem?_eq_getElem hi];exact List.getElem_mem hi)
  simp (disch:=omega) only[evB,↓reduceIte,Nat.reduceEqDiff,Nat.reduceBEq,Nat.reduceAdd,Nat.reduceMul,reduceCtorEq,Nat.reduceLeDiff,Int.reduceEq,Int.reduceLT,Int.reduceLE,Int.reduceBEq,Int.reduceBNe,Int.reduceAdd,Int.reduceNeg,Int.reduceSub,Int.reduceMul,h0,h1,ints_len,ge_iff_le,atZ,false_or,if_false,asNat_of (show 0≤i by omega),ints_at hg,around_D _ _ H hr hk]
theorem sameInts_D (a b:List Int) (H:AHeap) (ha:a.length≤9223372036854775806):callD A 24 [.slice (ints a) false,.slice (ints b) false] H=some (.bool (a==b),none):=by
 refine callD_W (fn:=ir24) rfl rfl rfl ?_
 unfold ir24;dsimp only[oQ,oP,iR,oM,oT,oL,oG,oH,oI,oF,oX,oA,oN,oS,oB,oR,oK,oC,iT,iC,iZ,iE]
 simp (disch:=omega) only[evB,↓reduceIte,Nat.reduceEqDiff,Nat.reduceBEq,Nat.reduceAdd,Nat.reduceMul,reduceCtorEq,Nat.reduceLeDiff,Int.reduceEq,Int.reduceLT,Int.reduceLE,Int.reduceBEq,Int.reduceBNe,Int.reduceAdd,Int.reduceNeg,Int.reduceSub,Int.reduceMul,ints_len]
 refine condW_split ?_ ?_<;>intro hlen
 ·have hne:a≠b:=fun e=>by subst e;simp at hlen
  simp (disch:=omega) only[evB,↓reduceIte,Nat.reduceEqDiff,Nat.reduceBEq,Nat.reduceAdd,Nat.reduceMul,reduceCtorEq,Nat.reduceLeDiff,Int.reduceEq,Int.reduceLT,Int.reduceLE,Int.reduceBEq,Int.reduceBNe,Int.reduceAdd,Int.reduceNeg,Int.reduceSub,Int.reduceMul,show (a==b)=false by simpa using hne]
 have hlen' : a.length=b.length:=by
  have:(a.length:Int)=b.length:=by simpa using hlen
  omega
 simp (disch:=omega) only[evB,↓reduceIte,Nat.reduceEqDiff,Nat.reduceBEq,Nat.reduceAdd,Nat.reduceMul,reduceCtorEq,Nat.reduceLeDiff,Int.reduceEq,Int.reduceLT,Int.reduceLE,Int.reduceBEq,Int.reduceBNe,Int.reduceAdd,Int.reduceNeg,Int.reduceSub,Int.reduceMul]
 refine W_count a.length (fun i=>Hd (fun T=>T 0=.slice (ints a) false∧T 1=.slice (ints b) false∧T 5=.int .i64 i∧(a==b)=(a.drop i==b.drop i)) H H.length 0) ?_ 0 _ (Nat.zero_le _) ?_
 ·rintro i s hi hs
  obtain⟨T,rfl,h0,h1,h5,hc⟩:=hs.out
  simp (disch:=omega) only[evB,↓reduceIte,Nat.reduceEqDiff,Nat.reduceBEq,Nat.reduceAdd,Nat.reduceMul,reduceCtorEq,Nat.reduceLeDiff,Int.reduceEq,Int.reduceLT,Int.reduceLE,Int.reduceBEq,Int.reduceBNe,Int.reduceAdd,Int.reduceNeg,Int.reduceSub,Int.reduceMul,h0,h5,ints_len]
  refine condW_dec ?_ ?_<;>intro h
  ·have hi' : i<a.length:=by omega
   have hi2:i<b.length:=by omega
   simp (disch:=omega) only[evB,↓reduceIte,Nat.reduceEqDiff,Nat.reduceBEq,Nat.reduceAdd,Nat.reduceMul,reduceCtorEq,Nat.reduceLeDiff,Int.reduceEq,Int.reduceLT,Int.reduceLE,Int.reduceBEq,Int.reduceBNe,Int.reduceAdd,Int.reduceNeg,Int.reduceSub,Int.reduceMul,h0,h1,h5,ints_at (List.getElem?_eq_getElem hi'),ints_at (List.getElem?_eq_getElem hi2)]
   refine condW_split ?_ ?_<;>intro hb
   ·simp (disch:=omega) only[evB,↓reduceIte,Nat.reduceEqDiff,Nat.reduceBEq,Nat.reduceAdd,Nat.reduceMul,reduceCtorEq,Nat.reduceLeDiff,Int.reduceEq,Int.reduceLT,Int.reduceLE,Int.reduceBEq,Int.reduceBNe,Int.reduceAdd,Int.reduceNeg,Int.reduceSub,Int.reduceMul,hc,List.drop_eq_getElem_cons hi',List.drop_eq_getElem_cons hi2,List.cons_beq_cons,show (a[i]==b[i])=false by simpa using hb]
   ·simp (disch:=omega) only[evB,↓reduceIte,Nat.reduceEqDiff,Nat.reduceBEq,Nat.reduceAdd,Nat.reduceMul,reduceCtorEq,Nat.reduceLeDiff,Int.reduceEq,Int.reduceLT,Int.reduceLE,Int.reduceBEq,Int.reduceBNe,Int.reduceAdd,Int.reduceNeg,Int.reduceSub,Int.reduceMul,h0,h1,h5]
    exact⟨hi',by rw[hc,List.drop_eq_getElem_cons hi',List.drop_eq_getElem_cons hi2,List.cons_beq_cons,show (a[i]==b[i])=true by simpa using hb,Bool.true_and]⟩
  ·have:i=a.length:=by omega
   subst this
   simp (disch:=omega) only[evB,↓reduceIte,Nat.reduceEqDiff,Nat.reduceBEq,Nat.reduceAdd,Nat.reduceMul,reduceCtorEq,Nat.reduceLeDiff,Int.reduceEq,Int.reduceLT,Int.reduceLE,Int.reduceBEq,Int.reduceBNe,Int.reduceAdd,Int.reduceNeg,Int.reduceSub,Int.reduceMul,hc,List.drop_length,show b.drop a.length=[] by rw[hlen',List.drop_length]]
 ·simp (disch:=omega) only[evB,↓reduceIte,Nat.reduceEqDiff,Nat.reduceBEq,Nat.reduceAdd,Nat.reduceMul,reduceCtorEq,Nat.reduceLeDiff,Int.reduceEq,Int.reduceLT,Int.reduceLE,Int.reduceBEq,Int.reduceBNe,Int.reduceAdd,Int.reduceNeg,Int.reduceSub,Int.reduceMul,List.drop_zero,Int.natCast_zero]
def whatsS:List Str:=[[110,97,109,101],[109,111,118,101],[116,121,112,101],[98,111,100,121],[108,97,121,111,117,116],[109,97,107,101],[97,110,121]]
theorem whats_D (H:AHeap):callD A 23 [] H=some (.slice (strs whatsS) true,none):=by
 refine callD_W (fn:=ir23) rfl rfl rfl ?_
 unfold ir23;dsimp only[oQ,oP,iR,oM,oT,oL,oG,oH,oI,oF,oX,oA,oN,oS,oB,oR,oK,oC,iT,iC,iZ,iE]
 simp only[x_seq,x_region,r_movc,so_slice,x_nil,x_normal,r_mkslice]
 refine so_of (.slice (strs whatsS) true) (by kernel_rfl) rfl ?_
 simp (disch:=omega) only[evB,↓reduceIte,Nat.reduceEqDiff,Nat.reduceBEq,Nat.reduceAdd,Nat.reduceMul,reduceCtorEq,Nat.reduceLeDiff,Int.reduceEq,Int.reduceLT,Int.reduceLE,Int.reduceBEq,Int.reduceBNe,Int.reduceAdd,Int.reduceNeg,Int.reduceSub,Int.reduceMul]
structure Rule where
 what:Str
 mod:Str
 n:Int
 who:List Int
 deriving DecidableEq
def encRule (r:Rule):List AV:=[.str r.what,.str r.mod,.int .i64 r.n,.slice (ints r.who) false]
def encRules (l:List Rule):List (List AV):=l.map encRule
theorem rules_len {l:List Rule} : (encRules l).length=l.length:=by simp[encRules]
theorem rules_at {l:List Rule} {i:Nat} {r:Rule} (h:l[i]?=some r):(encRules l)[i]?=some (encRule r):=by simp[encRules,h]
def isWhat (s:Str):Bool:=whatsS.contains s
def incr (last:Int):List Int→Bool
 | []=>true
 | w :: l=>decide (last<w)&&decide (w≤7)&&incr w l
structure RuleOK (r:Rule):Prop where
 mod:r.mod.length≤4611686018427387904
 n:I64 r.n
 who:r.who.length≤4611686018427387904
 whos:∀ w∈r.who,I64 w
theorem around_range {n k:Int} (hk:0<k):0≤around n k∧around n k<k:=by
 unfold around
 have h:∀ m:Int,0≤m→0≤m.tmod k∧m.tmod k<k:=fun m hm=>⟨Int.tmod_nonneg _ hm,Int.tmod_lt_of_pos _ hk⟩
 split
 ·exact h _ (by omega)
 ·exact h _ (by omega)
theorem atZ_range {l:List Int} {i k:Int} (hk:0<k):0≤atZ l i k∧atZ l i k<k:=by
 unfold atZ
 split
 ·omega
 ·exact around_range hk
theorem rules_rows {l:List Rule} : RowsB 4 (encRules l) :=
 ⟨fun r hr=>by simp only[encRules,List.mem_map] at hr;obtain⟨n,_,rfl⟩:=hr;rfl,nb_all fun r hr=>by simp only[encRules,List.mem_map] at hr;obtain⟨n,_,rfl⟩:=hr;rfl⟩
theorem rules_nb {l:List Rule} : nb (encRules l)=true:=rules_rows.2
theorem app_rules {l m:List Rule} {o:Bool} (h:l.length+m.length≤1099511627776):appendAV false 4 64 (.slice (encRules l) true) (.slice (encRules m) o)=some (.slice (encRules (l++m)) true):=by
 rw[app_ok rules_rows rules_rows (by rw[rules_len,rules_len];omega) (by rw[rules_len,rules_len];omega)];simp[encRules]
theorem app_rule {l:List Rule} {a b:Str} {n:Int} {w:List Int} {o:Bool} (h:l.length≤1099511627775) :
  appendAV false 4 64 (.slice (encRules l) true) (.slice [[.str a,.str b,.int .i64 n,.slice (ints w) false]] o)=some (.slice (encRules (l++[⟨a,b,n,w⟩])) true):=app_rules (m:=[⟨a,b,n,w⟩]) (by simp;omega)
theorem incr_append {w:Int} (hw:w≤7):∀ {l:List Int} {last:Int},incr last l=true→(∀ x∈l,x<w)→last<w→incr last (l++[w])=true
 | [],last,_,_,h=>by simp[incr,h,hw]
 | x :: l,last,hi,hl,h=>by
  simp only[incr,Bool.and_eq_true,decide_eq_true_eq,List.cons_append] at hi ⊢
  exact⟨hi.1,incr_append hw hi.2 (fun y hy=>hl y (List.mem_cons_of_mem _ hy)) (hl x (List.mem_cons_self ..))⟩
theorem incr_len:∀ {l:List Int} {last:Int},incr last l=true→(l.length:Int)≤if last≤7 then 7-last else 0
 | [],last,_=>by simp;split<;>omega
 | x :: l,last,h=>by
  simp only[incr,Bool.and_eq_true,decide_eq_true_eq] at h
  have:=incr_len h.2
  rw[if_pos h.1.2] at this
  rw[if_pos (by omega)]
  simp only[List.length_cons];omega
theorem incr_range:∀ {l:List Int} {last:Int},incr last l=true→∀ w∈l,last<w∧w≤7
 | x :: l,last,h,w,hw=>by
  simp only[incr,Bool.and_eq_true,decide_eq_true_eq] at h
  rcases List.mem_cons.1 hw with rfl|hw
  ·exact h.1
  ·have:=incr_range h.2 w hw
   omega
structure GenRule (names:List Str) (r:Rule):Prop where
 what:isWhat r.what=true
 mod:r.mod=[]∨r.mod∈names
 n1:1≤r.n
 n2:r.n≤r.who.length
 who:incr (-1) r.who=true
theorem GenRule.ok {names:List Str} {r:Rule} (h:GenRule names r) (hn:∀ m∈names,m.length≤4611686018427387904):RuleOK r:=by
 have h1:=incr_len h.who
 rw[if_pos (by omega)] at h1
 refine⟨?_,by have:=h.n1;have:=h.n2;constructor<;>omega,by omega,fun w hw=>by have:=incr_range h.who w hw;constructor<;>omega⟩
 rcases h.mod with e|e
 ·rw[e];simp
 ·exact hn _ e
theorem rules_inner (H:AHeap) (a0 a1 a7 a8 a9:AV) (what mod:Str) (bits:Int) (h1:1≤bits) (h2:bits≤255) (T:AFrame) (g g2 lo:Nat) (Q:IExit→AS→Prop) (h0:T 0=a0) (h1' : T 1=a1) (h7:T 7=a7) (h8:T 8=a8) (h9:T 9=a9)
  (h10:T 10=.lbox g [.str what,.str mod,.int .i64 0,.slice [] true]) (h12:T 12=.int .i64 bits) (h13:T 13=.int .i64 0)
  (hx:∀ T' g' who,incr (-1) who=true→who≠[]→T' 0=a0→T' 1=a1→T' 7=a7→T' 8=a8→T' 9=a9→T' 10=.lbox g [.str what,.str mod,.int .i64 0,.slice (ints who) true]→Q (.exit 2) ⟨T',H,lo,g'⟩) :
  W A (ir6.body.sub [true,true,true,false,true,false,false,true,false,false,true,true,true,true,false,true,false]) ⟨T,H,lo,g2⟩ Q:=by
 unfold ir6;dsimp only[oQ,oP,iR,oM,oT,oL,oG,oH,oI,oF,oX,oA,oN,oS,oB,oR,oK,oC,iT,iC,iZ,iE]
 simp only[ICode.sub]
 refine W_countx 8 2 (fun j=>HdG (fun T=>∃ who b,T 0=a0∧T 1=a1∧T 7=a7∧T 8=a8∧T 9=a9∧T 10=.lbox g [.str what,.str mod,.int .i64 0,.slice (ints who) true]∧T 12=.int .i64 b∧T 13=.int .i64 j ∧
   0≤b∧b*2 ^ j≤255∧(who=[]→0<b)∧incr (-1) who=true∧(∀ x∈who,x<j)) H lo)
  (HdG (fun T=>∃ who,T 0=a0∧T 1=a1∧T 7=a7∧T 8=a8∧T 9=a9∧T 10=.lbox g [.str what,.str mod,.int .i64 0,.slice (ints who) true]∧incr (-1) who=true∧who≠[]) H lo) (fun _=>False) ?_ ?_ (fun _ h=>h.elim) 0 _ (by omega) ?_
 ·rintro j st hj hst
  obtain⟨T,g3,rfl,who,b,h0,h1,h7,h8,h9,h10,h12,h13,hb0,hb1,hb2,hi,hm⟩:=hst.out
  by_cases h:j<8
  ·have hlen:=incr_len hi
   rw[if_pos (by omega)] at hlen
   have hb255:b≤255:=by
    have:(1:Int)≤2 ^ j:=by exact_mod_cast Nat.one_le_two_pow
    have:=Int.mul_le_mul_of_nonneg_left this hb0
    rw[Int.mul_one] at this
    omega
   have hq:b.tdiv 2=b / 2:=Int.tdiv_eq_ediv_of_nonneg hb0
   have hr:b.tmod 2=b % 2:=Int.tmod_eq_emod_of_nonneg hb0
   have hpow:(b / 2)*2 ^ (j+1)≤255:=by
    have:(2:Int) ^ (j+1)=2*2 ^ j:=by rw[Int.pow_succ,Int.mul_comm]
    rw[this,← Int.mul_assoc]
    have h2:b / 2*2≤b:=by omega
    have h3:(0:Int)≤2 ^ j:=Int.le_of_lt (Int.pow_pos (by omega))
    exact Int.le_trans (Int.mul_le_mul_of_nonneg_right h2 h3) hb1
   by_cases hodd:b % 2=1
   ·simp (disch:=omega) only[evO,↓reduceIte,Nat.reduceEqDiff,Nat.reduceBEq,Nat.reduceAdd,Nat.reduceMul,reduceCtorEq,Nat.reduceLeDiff,Int.reduceEq,Int.reduceLT,Int.reduceLE,Int.reduceBEq,Int.reduceBNe,Int.reduceAdd,Int.reduceNeg,Int.reduceSub,Int.reduceMul,h0,h1,h7,h8,h9,h10,h12,h13,hr,hodd,loadAV,takenAt,List.modify_succ_cons,List.modify_zero_cons,loadCellsAV,storeAV,hq]
    refine⟨h,who++[(j:Int)],b / 2,rfl,rfl,by omega,hpow,fun e=>by simp at e,incr_append (by omega) hi hm (by omega),fun x hx=>?_⟩
    rcases List.mem_append.1 hx with hx|hx
    ·have:=hm x hx;omega
    ·rw[List.mem_singleton.1 hx];omega
   ·simp (disch:=omega) only[evO,↓reduceIte,Nat.reduceEqDiff,Nat.reduceBEq,Nat.reduceAdd,Nat.reduceMul,reduceCtorEq,Nat.reduceLeDiff,Int.reduceEq,Int.reduceLT,Int.reduceLE,Int.reduceBEq,Int.reduceBNe,Int.reduceAdd,Int.reduceNeg,Int.reduceSub,Int.reduceMul,h0,h1,h7,h8,h9,h10,h12,h13,hr,hq]
    refine⟨h,who,b / 2,rfl,rfl,by omega,hpow,fun e=>?_,hi,fun x hx=>?_⟩
    ·have:=hb2 e;omega
    ·have:=hm x hx;omega
  ·have:j=8:=by omega
   subst this
   simp (disch:=omega) only[evO,↓reduceIte,Nat.reduceEqDiff,Nat.reduceBEq,Nat.reduceAdd,Nat.reduceMul,reduceCtorEq,Nat.reduceLeDiff,Int.reduceEq,Int.reduceLT,Int.reduceLE,Int.reduceBEq,Int.reduceBNe,Int.reduceAdd,Int.reduceNeg,Int.reduceSub,Int.reduceMul,h0,h1,h7,h8,h9,h10,h12,h13]
   exact⟨who,rfl,hi,fun e=>by have:=hb2 e;omega⟩
 ·intro st hst
  obtain⟨T,g,rfl,who,h0,h1,h7,h8,h9,h10,hi,hne⟩:=hst.out
  exact hx _ _ who hi hne h0 h1 h7 h8 h9 h10
 ·simp (disch:=omega) only[evB,↓reduceIte,Nat.reduceEqDiff,Nat.reduceBEq,Nat.reduceAdd,Nat.reduceMul,reduceCtorEq,Nat.reduceLeDiff,Int.reduceEq,Int.reduceLT,Int.reduceLE,Int.reduceBEq,Int.reduceBNe,Int.reduceAdd,Int.reduceNeg,Int.reduceSub,Int.reduceMul,h0,h1',h7,h8,h9,h10,h12,h13,Int.natCast_zero]
  exact⟨[],bits,rfl,rfl,by omega,by omega,fun _=>by omega,rfl,fun x hx=>by simp at hx⟩
theorem rules_D (l:List Int) (names:List Str) (most:Int) (H:AHeap) (hl:∀ n∈l,I64 n) (hn:names.length≤1000000) (hm0:0≤most) (hm1:most≤1000000) :
  ∃ r,callD A 6 [.slice (ints l) false,.slice (strs names) false,.int .i64 most] H=some r∧∃ x:List Rule,r=(.slice (encRules x) false,none)∧(x.length:Int)≤most∧∀ r∈x,GenRule names r:=by
 refine callD_WP (fn:=ir6) rfl rfl rfl ?_
 unfold ir6;dsimp only[oQ,oP,iR,oM,oT,oL,oG,oH,oI,oF,oX,oA,oN,oS,oB,oR,oK,oC,iT,iC,iZ,iE]
 have hn0:=atZ_range (l:=l) (i:=0) (k:=most+1) (by omega)
 have h7' : whatsS.length=7:=rfl
 simp (disch:=omega) only[evB,↓reduceIte,Nat.reduceEqDiff,Nat.reduceBEq,Nat.reduceAdd,Nat.reduceMul,reduceCtorEq,Nat.reduceLeDiff,Int.reduceEq,Int.reduceLT,Int.reduceLE,Int.reduceBEq,Int.reduceBNe,Int.reduceAdd,Int.reduceNeg,Int.reduceSub,Int.reduceMul,at_D l _ _ H hl (show 0<most+1 by omega)]
 generalize atZ l 0 (most+1)=n at hn0
 refine W_countx n.toNat 0 (fun i=>HdG (fun T=>∃ x:List Rule,T 0=.slice (ints l) false∧T 1=.slice (strs names) false∧T 7=.slice (encRules x) true∧T 8=.int .i64 n∧T 9=.int .i64 i∧x.length=i∧∀ r∈x,GenRule names r) H H.length)
  (HdG (fun T=>∃ x:List Rule,T 7=.slice (encRules x) true∧x.length=n.toNat∧∀ r∈x,GenRule names r) H H.length) (fun _=>False) ?_ ?_ (fun _ h=>h.elim) 0 _ (by omega) ?_
 ·rintro i st hi hst
  obtain⟨T,g,rfl,x,h0,h1,h7,h8,h9,hxl,hx⟩:=hst.out
  by_cases h:i<n.toNat
  ·have r1:=atZ_range (l:=l) (i:=1+i) (k:=7) (by omega)
   have r2:=atZ_range (l:=l) (i:=9+i) (k:=2*names.length+1) (by omega)
   have r3:=atZ_range (l:=l) (i:=17+i) (k:=255) (by omega)
   have g1:(strs whatsS)[(atZ l (1+i) 7).toNat]?=some [.str (whatsS.getD (atZ l (1+i) 7).toNat [])]:=by
    rw[strs_get,List.getD_eq_getElem?_getD]
    have:(atZ l (1+i) 7).toNat<whatsS.length:=by omega
    rw[List.getElem?_eq_getElem this];rfl
   have g1w:isWhat (whatsS.getD (atZ l (1+i) 7).toNat [])=true:=by
    have:(atZ l (1+i) 7).toNat<whatsS.length:=by omega
    rw[List.getD_eq_getElem?_getD,List.getElem?_eq_getElem this]
    unfold isWhat
    exact List.contains_iff_mem.2 (List.getElem_mem this)
   generalize whatsS.getD (atZ l (1+i) 7).toNat []=what at g1 g1w
   by_cases hk:atZ l (9+i) (2*names.length+1)<names.length
   ·have hlt:(atZ l (9+i) (2*names.length+1)).toNat<names.length:=by omega
    have g2:=strs_at (List.getElem?_eq_getElem hlt)
    have hmem:=List.getElem_mem hlt
    generalize names[(atZ l (9+i) (2*names.length+1)).toNat]=mod at g2 hmem
    simp (disch:=omega) only[evO,↓reduceIte,Nat.reduceEqDiff,Nat.reduceBEq,Nat.reduceAdd,Nat.reduceMul,reduceCtorEq,Nat.reduceLeDiff,Int.reduceEq,Int.reduceLT,Int.reduceLE,Int.reduceBEq,Int.reduceBNe,Int.reduceAdd,Int.reduceNeg,Int.reduceSub,Int.reduceMul,h0,h1,h7,h8,h9,whats_D,at_D l _ _ H hl,asNat_of,g1,storeAV,strs_len,g2]
    refine rules_inner H (.slice (ints l) false) (.slice (strs names) false) (.slice (encRules x) true) (.int .i64 n) (.int .i64 i) what mod (1+atZ l (17+i) 255) (by omega) (by omega) _ g _ _ _ ?_ ?_ ?_ ?_ ?_ ?_ ?_ ?_ ?_
    case refine_9 =>
     intro T' g' who hi hne h0 h1 h7 h8 h9 h10
     have hw:0<who.length:=List.length_pos_iff.2 hne
     have hwl:=incr_len hi
     rw[if_pos (by omega)] at hwl
     have r4:=atZ_range (l:=l) (i:=25+i) (k:=who.length) (by omega)
     simp (disch:=omega) only[evB,↓reduceIte,Nat.reduceEqDiff,Nat.reduceBEq,Nat.reduceAdd,Nat.reduceMul,reduceCtorEq,Nat.reduceLeDiff,Int.reduceEq,Int.reduceLT,Int.reduceLE,Int.reduceBEq,Int.reduceBNe,Int.reduceAdd,Int.reduceNeg,Int.reduceSub,Int.reduceMul,h0,h1,h7,h8,h9,h10,at_D l _ _ H hl,ints_len,storeAV,app_rule]
     refine⟨h,x++[⟨what,mod,1+atZ l (25+i) who.length,who⟩],rfl,by simp[hxl],fun r hr=>?_⟩
     rcases List.mem_append.1 hr with hr|hr
     ·exact hx r hr
     ·rw[List.mem_singleton.1 hr]
      exact⟨g1w,.inr hmem,by simp only;omega,by simp only;omega,hi⟩
    all_goals simp (disch:=omega) only[evB,↓reduceIte,Nat.reduceEqDiff,Nat.reduceBEq,Nat.reduceAdd,Nat.reduceMul,reduceCtorEq,Nat.reduceLeDiff,Int.reduceEq,Int.reduceLT,Int.reduceLE,Int.reduceBEq,Int.reduceBNe,Int.reduceAdd,Int.reduceNeg,Int.reduceSub,Int.reduceMul,h0,h1,h7,h8,h9]
   ·simp (disch:=omega) only[evO,↓reduceIte,Nat.reduceEqDiff,Nat.reduceBEq,Nat.reduceAdd,Nat.reduceMul,reduceCtorEq,Nat.reduceLeDiff,Int.reduceEq,Int.reduceLT,Int.reduceLE,Int.reduceBEq,Int.reduceBNe,Int.reduceAdd,Int.reduceNeg,Int.reduceSub,Int.reduceMul,h0,h1,h7,h8,h9,whats_D,at_D l _ _ H hl,asNat_of,g1,storeAV,strs_len]
    refine rules_inner H (.slice (ints l) false) (.slice (strs names) false) (.slice (encRules x) true) (.int .i64 n) (.int .i64 i) what [] (1+atZ l (17+i) 255) (by omega) (by omega) _ g _ _ _ ?_ ?_ ?_ ?_ ?_ ?_ ?_ ?_ ?_
    case refine_9 =>
     intro T' g' who hi hne h0 h1 h7 h8 h9 h10
     have hw:0<who.length:=List.length_pos_iff.2 hne
     have hwl:=incr_len hi
     rw[if_pos (by omega)] at hwl
     have r4:=atZ_range (l:=l) (i:=25+i) (k:=who.length) (by omega)
     simp (disch:=omega) only[evB,↓reduceIte,Nat.reduceEqDiff,Nat.reduceBEq,Nat.reduceAdd,Nat.reduceMul,reduceCtorEq,Nat.reduceLeDiff,Int.reduceEq,Int.reduceLT,Int.reduceLE,Int.reduceBEq,Int.reduceBNe,Int.reduceAdd,Int.reduceNeg,Int.reduceSub,Int.reduceMul,h0,h1,h7,h8,h9,h10,at_D l _ _ H hl,ints_len,storeAV,app_rule]
     refine⟨h,x++[⟨what,[],1+atZ l (25+i) who.length,who⟩],rfl,by simp[hxl],fun r hr=>?_⟩
     rcases List.mem_append.1 hr with hr|hr
     ·exact hx r hr
     ·rw[List.mem_singleton.1 hr]
      exact⟨g1w,.inl rfl,by simp only;omega,by simp only;omega,hi⟩
    all_goals simp (disch:=omega) only[evB,↓reduceIte,Nat.reduceEqDiff,Nat.reduceBEq,Nat.reduceAdd,Nat.reduceMul,reduceCtorEq,Nat.reduceLeDiff,Int.reduceEq,Int.reduceLT,Int.reduceLE,Int.reduceBEq,Int.reduceBNe,Int.reduceAdd,Int.reduceNeg,Int.reduceSub,Int.reduceMul,h0,h1,h7,h8,h9]
  ·have:i=n.toNat:=by omega
   subst this
   simp (disch:=omega) only[evO,↓reduceIte,Nat.reduceEqDiff,Nat.reduceBEq,Nat.reduceAdd,Nat.reduceMul,reduceCtorEq,Nat.reduceLeDiff,Int.reduceEq,Int.reduceLT,Int.reduceLE,Int.reduceBEq,Int.reduceBNe,Int.reduceAdd,Int.reduceNeg,Int.reduceSub,Int.reduceMul,h0,h1,h7,h8,h9]
   exact⟨x,rfl,hxl,hx⟩
 ·intro st hst
  obtain⟨T,g,rfl,x,h7,hxl,hx⟩:=hst.out
  simp (disch:=omega) only[evB,↓reduceIte,Nat.reduceEqDiff,Nat.reduceBEq,Nat.reduceAdd,Nat.reduceMul,reduceCtorEq,Nat.reduceLeDiff,Int.reduceEq,Int.reduceLT,Int.reduceLE,Int.reduceBEq,Int.reduceBNe,Int.reduceAdd,Int.reduceNeg,Int.reduceSub,Int.reduceMul,h7]
  exact⟨x,rfl,by omega,hx⟩
 ·simp (disch:=omega) only[evB,↓reduceIte,Nat.reduceEqDiff,Nat.reduceBEq,Nat.reduceAdd,Nat.reduceMul,reduceCtorEq,Nat.reduceLeDiff,Int.reduceEq,Int.reduceLT,Int.reduceLE,Int.reduceBEq,Int.reduceBNe,Int.reduceAdd,Int.reduceNeg,Int.reduceSub,Int.reduceMul,Int.natCast_zero]
  exact⟨[],rfl,rfl,fun r hr=>by simp at hr⟩
def RulesB (b:Nat) (x:List Rule):Prop:=∀ r∈x,RuleOK r∧r.who.length≤b
theorem RulesB.set {b:Nat} {x:List Rule} {i:Nat} {r:Rule} (h:RulesB b x) (hr:RuleOK r∧r.who.length≤b):RulesB b (x.set i r):=by
 intro q hq
 rcases List.mem_or_eq_of_mem_set hq with hq|rfl
 ·exact h q hq
 ·exact hr
theorem RulesB.append {b:Nat} {x:List Rule} {r:Rule} (h:RulesB b x) (hr:RuleOK r∧r.who.length≤b):RulesB b (x++[r]):=by
 intro q hq
 rcases List.mem_append.1 hq with hq|hq
 ·exact h q hq
 ·rw[List.mem_singleton.1 hq];exact hr
theorem RulesB.mono {b c:Nat} {x:List Rule} (h:RulesB b x) (hb:b≤c):RulesB c x:=fun r hr=>⟨(h r hr).1,Nat.le_trans (h r hr).2 hb⟩
theorem rules_set {x:List Rule} {i:Nat} {r:Rule} : (encRules x).set i (encRule r)=encRules (x.set i r):=by simp[encRules,List.map_set]
theorem rules_set' {x:List Rule} {i:Nat} {a b:Str} {n:Int} {w:List Int} : (encRules x).set i [.str a,.str b,.int .i64 n,.slice (ints w) false]=encRules (x.set i ⟨a,b,n,w⟩):=rules_set (r:=⟨a,b,n,w⟩)
theorem rules_set0 {x:List Rule} {i:Nat} {a b:Str} {n:Int} : (encRules x).set i [.str a,.str b,.int .i64 n,.slice [] false]=encRules (x.set i ⟨a,b,n,[]⟩):=rules_set (r:=⟨a,b,n,[]⟩)
theorem fits_rules {x:List Rule} (h:x.length≤1000000000):fitsRows 4 64 [] (encRules x)=true:=fits_ok ⟨fun r h=>by simp at h,rfl⟩ rules_rows (by rw[rules_len];simp only[List.length_nil];omega) (by rw[rules_len];simp only[List.length_nil];omega)
theorem spoilt_D (x:List Rule) (at' how by' : Int) (H:AHeap) (B:Nat) (hB:B≤1000000) (hx:RulesB B x) (hl:x.length≤1000000) (h1:I64 at') (h2:I64 how) (h3:I64 by') :
  ∃ r,callD A 5 [.slice (encRules x) false,.int .i64 at',.int .i64 how,.int .i64 by'] H=some r∧∃ y:List Rule,r=(.slice (encRules y) true,none)∧y.length≤x.length+70∧RulesB (B+1) y:=by
 refine callD_WP (fn:=ir5) rfl rfl rfl ?_
 unfold ir5;dsimp only[oQ,oP,iR,oM,oT,oL,oG,oH,oI,oF,oX,oA,oN,oS,oB,oR,oK,oC,iT,iC,iZ,iE]
 by_cases hx0:x.length=0
 ·obtain rfl:x=[]:=List.length_eq_zero_iff.1 hx0
  simp (disch:=omega) only[evO,↓reduceIte,Nat.reduceEqDiff,Nat.reduceBEq,Nat.reduceAdd,Nat.reduceMul,reduceCtorEq,Nat.reduceLeDiff,Int.reduceEq,Int.reduceLT,Int.reduceLE,Int.reduceBEq,Int.reduceBNe,Int.reduceAdd,Int.reduceNeg,Int.reduceSub,Int.reduceMul,List.isEmpty_nil,fits_rules,rules_len]
  exact⟨[⟨[97,110,121],[],by',[]⟩],rfl,by simp,fun r hr=>by rw[List.mem_singleton.1 hr];exact⟨⟨by simp,h3,by simp,fun w hw=>by simp at hw⟩,by simp⟩⟩
 have hk:=around_range (n:=at') (k:=x.length) (by omega)
 have ha:callD A 9 [.int .i64 at',.int .i64 (x.length:Int)] H=some (.int .i64 (around at' x.length),none):=around_D _ _ H h1 (by omega)
 have hlt:(around at' x.length).toNat<x.length:=by omega
 have hg:=List.getElem?_eq_getElem hlt
 have hr:=hx _ (List.getElem_mem hlt)
 generalize hkk:around at' (x.length:Int)=k at ha hk hlt hg hr
 generalize x[k.toNat]=r at hg hr
 obtain⟨⟨m1,m2,m3,m4⟩,m5⟩:=hr
 have hh:=around_range (n:=how) (k:=8) (by omega)
 have hxb:RulesB (B+1) x:=hx.mono (by omega)
 have wI:∀ (a b:Int),0<b→b≤1000→I64 (around a b):=fun a b h h'=>by have:=around_range (n:=a) h;constructor<;>omega
 have put:∀ r' : Rule,RuleOK r'→r'.who.length≤B+1→(x.set k.toNat r').length≤x.length+70∧RulesB (B+1) (x.set k.toNat r'):=fun r' h h'=>⟨by simp,hxb.set ⟨h,h'⟩⟩
 rcases (show around how 8=0∨around how 8=1∨around how 8=2∨around how 8=3∨around how 8=4∨around how 8=5∨around how 8=6∨around how 8=7 by omega) with hb|hb|hb|hb|hb|hb|hb|hb
 ·have h4:=around_range (n:=by') (k:=4) (by omega)
  rcases (show around by' 4=0∨around by' 4=1∨around by' 4=2∨around by' 4=3 by omega) with e|e|e|e <;>
  (simp (disch:=omega) only[evO,↓reduceIte,Nat.reduceEqDiff,Nat.reduceBEq,Nat.reduceAdd,Nat.reduceMul,reduceCtorEq,Nat.reduceLeDiff,Int.reduceEq,Int.reduceLT,Int.reduceLE,Int.reduceBEq,Int.reduceBNe,Int.reduceAdd,Int.reduceNeg,Int.reduceSub,Int.reduceMul,List.isEmpty_nil,fits_rules,rules_len,ha,hb,asNat_of,rules_at hg,encRule,around_D _ _ H h2,around_D _ _ H h3,storeAV,rules_set',rules_nb,ints_len,e]
   exact⟨_,rfl,put _ ⟨m1,m2,m3,m4⟩ (by simp only;omega)⟩)
 ·have h4:=around_range (n:=by') (k:=5) (by omega)
  rcases (show around by' 5=0∨around by' 5=1∨around by' 5=2∨around by' 5=3∨around by' 5=4 by omega) with e|e|e|e|e <;>
  (simp (disch:=omega) only[evO,↓reduceIte,Nat.reduceEqDiff,Nat.reduceBEq,Nat.reduceAdd,Nat.reduceMul,reduceCtorEq,Nat.reduceLeDiff,Int.reduceEq,Int.reduceLT,Int.reduceLE,Int.reduceBEq,Int.reduceBNe,Int.reduceAdd,Int.reduceNeg,Int.reduceSub,Int.reduceMul,List.isEmpty_nil,fits_rules,rules_len,ha,hb,asNat_of,rules_at hg,encRule,around_D _ _ H h2,around_D _ _ H h3,storeAV,rules_set',rules_nb,ints_len,e]
   exact⟨_,rfl,put _ ⟨by simp,m2,m3,m4⟩ (by simp only;omega)⟩)
 ·simp (disch:=omega) only[evO,↓reduceIte,Nat.reduceEqDiff,Nat.reduceBEq,Nat.reduceAdd,Nat.reduceMul,reduceCtorEq,Nat.reduceLeDiff,Int.reduceEq,Int.reduceLT,Int.reduceLE,Int.reduceBEq,Int.reduceBNe,Int.reduceAdd,Int.reduceNeg,Int.reduceSub,Int.reduceMul,List.isEmpty_nil,fits_rules,rules_len,ha,hb,asNat_of,rules_at hg,encRule,around_D _ _ H h2,around_D _ _ H h3,storeAV,rules_set',rules_set0,rules_nb,ints_len]
  exact⟨_,rfl,put _ ⟨m1,h3,m3,m4⟩ (by simp only;omega)⟩
 ·have h4:=around_range (n:=by') (k:=2) (by omega)
  simp (disch:=omega) only[evO,↓reduceIte,Nat.reduceEqDiff,Nat.reduceBEq,Nat.reduceAdd,Nat.reduceMul,reduceCtorEq,Nat.reduceLeDiff,Int.reduceEq,Int.reduceLT,Int.reduceLE,Int.reduceBEq,Int.reduceBNe,Int.reduceAdd,Int.reduceNeg,Int.reduceSub,Int.reduceMul,List.isEmpty_nil,fits_rules,rules_len,ha,hb,asNat_of,rules_at hg,encRule,around_D _ _ H h2,around_D _ _ H h3,storeAV,rules_set',rules_set0,rules_nb,ints_len]
  exact⟨_,rfl,put _ ⟨m1,⟨by simp only;omega,by simp only;omega⟩,m3,m4⟩ (by simp only;omega)⟩
 ·have h4:=around_range (n:=by') (k:=10) (by omega)
  simp (disch:=omega) only[evO,↓reduceIte,Nat.reduceEqDiff,Nat.reduceBEq,Nat.reduceAdd,Nat.reduceMul,reduceCtorEq,Nat.reduceLeDiff,Int.reduceEq,Int.reduceLT,Int.reduceLE,Int.reduceBEq,Int.reduceBNe,Int.reduceAdd,Int.reduceNeg,Int.reduceSub,Int.reduceMul,List.isEmpty_nil,fits_rules,rules_len,ha,hb,asNat_of,rules_at hg,encRule,around_D _ _ H h2,around_D _ _ H h3,storeAV,rules_set',rules_set0,rules_nb,ints_len]
  refine⟨_,rfl,put _ ⟨m1,m2,by simp;omega,fun w hw=>?_⟩ (by simp;omega)⟩
  rcases List.mem_append.1 hw with hw|hw
  ·exact m4 w hw
  ·rw[List.mem_singleton.1 hw];exact wI _ _ (by omega) (by omega)
 ·have h4:=around_range (n:=by') (k:=4) (by omega)
  simp (disch:=omega) only[evO,↓reduceIte,Nat.reduceEqDiff,Nat.reduceBEq,Nat.reduceAdd,Nat.reduceMul,reduceCtorEq,Nat.reduceLeDiff,Int.reduceEq,Int.reduceLT,Int.reduceLE,Int.reduceBEq,Int.reduceBNe,Int.reduceAdd,Int.reduceNeg,Int.reduceSub,Int.reduceMul,List.isEmpty_nil,fits_rules,rules_len,ha,hb,asNat_of,rules_at hg,encRule,around_D _ _ H h2,around_D _ _ H h3,storeAV,rules_set',rules_set0,rules_nb,ints_len]
  refine⟨_,rfl,put _ ⟨m1,m2,by simp;omega,fun w hw=>?_⟩ (by simp;omega)⟩
  rcases List.mem_cons.1 hw with rfl|hw
  ·constructor<;>omega
  ·exact m4 w hw
 ·have h4:=around_range (n:=by') (k:=3) (by omega)
  have hg0:x[0]?=some x[0]:=List.getElem?_eq_getElem (by omega)
  have hr0:=hxb _ (List.getElem_mem (show 0<x.length by omega))
  generalize x[0]=r0 at hg0 hr0
  simp (disch:=omega) only[evO,↓reduceIte,Nat.reduceEqDiff,Nat.reduceBEq,Nat.reduceAdd,Nat.reduceMul,reduceCtorEq,Nat.reduceLeDiff,Int.reduceEq,Int.reduceLT,Int.reduceLE,Int.reduceBEq,Int.reduceBNe,Int.reduceAdd,Int.reduceNeg,Int.reduceSub,Int.reduceMul,List.isEmpty_nil,fits_rules,rules_len,ha,hb,asNat_of,rules_at hg,encRule,around_D _ _ H h2,around_D _ _ H h3,storeAV,rules_set',rules_nb,ints_len]
  refine W_loopm 1 (fun k=>HdG (fun T=>∃ g y,T 0=.slice (encRules x) false∧T 3=.int .i64 by'∧T 9=.lsl g (encRules y)∧y.length≤x.length+70∧RulesB (B+1) y∧k=66-y.length) H H.length)
   (HdG (fun T=>∃ g y,T 9=.lsl g (encRules y)∧y.length≤x.length+70∧RulesB (B+1) y) H H.length) (fun _=>False) ?_ ?_ (fun _ h=>h.elim) (66-x.length) _ ?_
  ·rintro j st hst
   obtain⟨T,g3,rfl,g,y,q0,q3,q9,hyl,hy,hj⟩:=hst.out
   by_cases h:(y.length:Int)<63+around by' 3
   ·simp (disch:=omega) only[evO,↓reduceIte,Nat.reduceEqDiff,Nat.reduceBEq,Nat.reduceAdd,Nat.reduceMul,reduceCtorEq,Nat.reduceLeDiff,Int.reduceEq,Int.reduceLT,Int.reduceLE,Int.reduceBEq,Int.reduceBNe,Int.reduceAdd,Int.reduceNeg,Int.reduceSub,Int.reduceMul,q0,q3,q9,rules_len,around_D _ _ H h3,rules_at hg0,encRule,elemsOf]
    have hf:fitsRows 4 64 (encRules y) [[.str r0.what,.str r0.mod,.int .i64 r0.n,.slice (ints r0.who) false]]=true:=fits_ok rules_rows (rules_rows (l:=[r0])) (by rw[rules_len];simp only[List.length_cons,List.length_nil];omega) (by rw[rules_len];simp only[List.length_cons,List.length_nil];omega)
    simp (disch:=omega) only[evO,↓reduceIte,Nat.reduceEqDiff,Nat.reduceBEq,Nat.reduceAdd,Nat.reduceMul,reduceCtorEq,Nat.reduceLeDiff,Int.reduceEq,Int.reduceLT,Int.reduceLE,Int.reduceBEq,Int.reduceBNe,Int.reduceAdd,Int.reduceNeg,Int.reduceSub,Int.reduceMul,hf,q0,q3]
    refine⟨66-(y.length+1),by omega,g3+1+1,y++[r0],?_,by simp;omega,hy.append hr0,by simp⟩
    simp[encRules,encRule]
   ·simp (disch:=omega) only[evO,↓reduceIte,Nat.reduceEqDiff,Nat.reduceBEq,Nat.reduceAdd,Nat.reduceMul,reduceCtorEq,Nat.reduceLeDiff,Int.reduceEq,Int.reduceLT,Int.reduceLE,Int.reduceBEq,Int.reduceBNe,Int.reduceAdd,Int.reduceNeg,Int.reduceSub,Int.reduceMul,q0,q3,q9,rules_len,around_D _ _ H h3]
    exact⟨g,y,rfl,hyl,hy⟩
  ·intro st hst
   obtain⟨T,g3,rfl,g,y,q9,hyl,hy⟩:=hst.out
   simp (disch:=omega) only[evB,↓reduceIte,Nat.reduceEqDiff,Nat.reduceBEq,Nat.reduceAdd,Nat.reduceMul,reduceCtorEq,Nat.reduceLeDiff,Int.reduceEq,Int.reduceLT,Int.reduceLE,Int.reduceBEq,Int.reduceBNe,Int.reduceAdd,Int.reduceNeg,Int.reduceSub,Int.reduceMul,q9,rules_nb]
   exact⟨_,rfl,hyl,hy⟩
  ·simp (disch:=omega) only[evB,↓reduceIte,Nat.reduceEqDiff,Nat.reduceBEq,Nat.reduceAdd,Nat.reduceMul,reduceCtorEq,Nat.reduceLeDiff,Int.reduceEq,Int.reduceLT,Int.reduceLE,Int.reduceBEq,Int.reduceBNe,Int.reduceAdd,Int.reduceNeg,Int.reduceSub,Int.reduceMul]
   exact⟨_,x,rfl,by omega,hxb,rfl⟩
 ·simp (disch:=omega) only[evO,↓reduceIte,Nat.reduceEqDiff,Nat.reduceBEq,Nat.reduceAdd,Nat.reduceMul,reduceCtorEq,Nat.reduceLeDiff,Int.reduceEq,Int.reduceLT,Int.reduceLE,Int.reduceBEq,Int.reduceBNe,Int.reduceAdd,Int.reduceNeg,Int.reduceSub,Int.reduceMul,List.isEmpty_nil,fits_rules,rules_len,ha,hb,asNat_of,rules_at hg,encRule,around_D _ _ H h2,around_D _ _ H h3,storeAV,rules_set',rules_set0,rules_nb,ints_len]
  exact⟨_,rfl,put ⟨r.what,r.mod,r.n,[]⟩ ⟨m1,m2,by simp,fun w hw=>by simp at hw⟩ (by simp)⟩
theorem sameRules_D (a b:List Rule) (H:AHeap) (ha:a.length≤4611686018427387904) (hr:∀ r∈a,r.who.length≤4611686018427387904) (hab:a=b):callD A 12 [.slice (encRules a) false,.slice (encRules b) false] H=some (.bool true,none):=by
 subst hab
 refine callD_W (fn:=ir12) rfl rfl rfl ?_
 unfold ir12;dsimp only[oQ,oP,iR,oM,oT,oL,oG,oH,oI,oF,oX,oA,oN,oS,oB,oR,oK,oC,iT,iC,iZ,iE]
 simp (disch:=omega) only[evO,↓reduceIte,Nat.reduceEqDiff,Nat.reduceBEq,Nat.reduceAdd,Nat.reduceMul,reduceCtorEq,Nat.reduceLeDiff,Int.reduceEq,Int.reduceLT,Int.reduceLE,Int.reduceBEq,Int.reduceBNe,Int.reduceAdd,Int.reduceNeg,Int.reduceSub,Int.reduceMul,rules_len]
 refine W_countx a.length 0 (fun i=>Hd (fun T=>T 0=.slice (encRules a) false∧T 1=.slice (encRules a) false∧T 5=.int .i64 i) H H.length 0) (Hd (fun T=>True) H H.length 0) (fun _=>False) ?_ ?_ (fun _ h=>h.elim) 0 _ (by omega) ?_
 ·rintro i st hi hst
  obtain⟨T,rfl,h0,h1,h5⟩:=hst.out
  by_cases h:i<a.length
  ·have hg:=rules_at (List.getElem?_eq_getElem h)
   have hrk:=hr _ (List.getElem_mem h)
   generalize a[i]=r at hg hrk
   simp (disch:=omega) only[evO,↓reduceIte,Nat.reduceEqDiff,Nat.reduceBEq,Nat.reduceAdd,Nat.reduceMul,reduceCtorEq,Nat.reduceLeDiff,Int.reduceEq,Int.reduceLT,Int.reduceLE,Int.reduceBEq,Int.reduceBNe,Int.reduceAdd,Int.reduceNeg,Int.reduceSub,Int.reduceMul,h0,h1,h5,rules_len,hg,encRule,sameInts_D r.who r.who H (by omega),beq_self_eq_true,bne_self_eq_false]
   exact h
  ·have:i=a.length:=by omega
   subst this
   simp (disch:=omega) only[evO,↓reduceIte,Nat.reduceEqDiff,Nat.reduceBEq,Nat.reduceAdd,Nat.reduceMul,reduceCtorEq,Nat.reduceLeDiff,Int.reduceEq,Int.reduceLT,Int.reduceLE,Int.reduceBEq,Int.reduceBNe,Int.reduceAdd,Int.reduceNeg,Int.reduceSub,Int.reduceMul,h0,h1,h5,rules_len]
 ·intro st hst
  obtain⟨T,rfl,_⟩:=hst.out
  simp (disch:=omega) only[evB,↓reduceIte,Nat.reduceEqDiff,Nat.reduceBEq,Nat.reduceAdd,Nat.reduceMul,reduceCtorEq,Nat.reduceLeDiff,Int.reduceEq,Int.reduceLT,Int.reduceLE,Int.reduceBEq,Int.reduceBNe,Int.reduceAdd,Int.reduceNeg,Int.reduceSub,Int.reduceMul]
 ·simp (disch:=omega) only[evB,↓reduceIte,Nat.reduceEqDiff,Nat.reduceBEq,Nat.reduceAdd,Nat.reduceMul,reduceCtorEq,Nat.reduceLeDiff,Int.reduceEq,Int.reduceLT,Int.reduceLE,Int.reduceBEq,Int.reduceBNe,Int.reduceAdd,Int.reduceNeg,Int.reduceSub,Int.reduceMul,Int.natCast_zero]
end Go.Proofs.YtemfofdaemgjgaaGreatDoor
end
section
set_option linter.unusedSimpArgs false
set_option linter.unusedVariables false
set_option maxRecDepth 100000
namespace Go.Proofs.YtemfofdaemgjgaaGreatDoor
open Go Go.Abs Go.Proofs
structure Id where
 shop:Int
 seq:Int
 index:Int
 deriving DecidableEq
inductive Ty where
 | mk (kind:Int) (d:Id) (kids:List Ty)
inductive Ex where
 | mk (id:Id) (kind n:Int) (ref:Id) (tk:Int) (td:Id) (tks:Option (List Ty)) (kids:List Ex) (names:Option (List Str))
def Ty.kind:Ty→Int|.mk k _ _=>k
def Ty.d:Ty→Id|.mk _ d _=>d
def Ty.kids:Ty→List Ty|.mk _ _ ks=>ks
def Ex.id:Ex→Id|.mk i _ _ _ _ _ _ _ _=>i
def Ex.kind:Ex→Int|.mk _ k _ _ _ _ _ _ _=>k
def Ex.n:Ex→Int|.mk _ _ n _ _ _ _ _ _=>n
def Ex.ref:Ex→Id|.mk _ _ _ r _ _ _ _ _=>r
def Ex.tk:Ex→Int|.mk _ _ _ _ t _ _ _ _=>t
def Ex.td:Ex→Id|.mk _ _ _ _ _ t _ _ _=>t
def Ex.tks:Ex→Option (List Ty)|.mk _ _ _ _ _ _ t _ _=>t
def Ex.kids:Ex→List Ex|.mk _ _ _ _ _ _ _ ks _=>ks
def Ex.names:Ex→Option (List Str)|.mk _ _ _ _ _ _ _ _ ns=>ns
mutual
def encTy:Ty→List AV
 | .mk k d ks=>[.int .i64 k,.int .i64 d.shop,.int .i64 d.seq,.int .i64 d.index,.slice (encTys ks) false]
def encTys:List Ty→List (List AV)
 | []=>[]
 | t :: r=>encTy t :: encTys r
end
def encId (i:Id):List AV:=[.int .i64 i.shop,.int .i64 i.seq,.int .i64 i.index]
def encIds (l:List Id):List (List AV):=l.map encId
mutual
def encEx:Ex→List AV
 | .mk i k n r tk td tks ks ns=>[.int .i64 i.shop,.int .i64 i.seq,.int .i64 i.index,.int .i64 k,.int .i64 n,.int .i64 r.shop,.int .i64 r.seq,.int .i64 r.index,
   .int .i64 tk,.int .i64 td.shop,.int .i64 td.seq,.int .i64 td.index,encNil (tks.map encTys),.slice (encExs ks) false,encNil (ns.map strs)]
def encExs:List Ex→List (List AV)
 | []=>[]
 | e :: r=>encEx e :: encExs r
end
theorem encTys_map:∀ l:List Ty,encTys l=l.map encTy
 | []=>by simp[encTys]
 | t :: r=>by simp[encTys,encTys_map r]
theorem encExs_map:∀ l:List Ex,encExs l=l.map encEx
 | []=>by simp[encExs]
 | t :: r=>by simp[encExs,encExs_map r]
theorem encTy_eq (t:Ty):encTy t=[.int .i64 t.kind,.int .i64 t.d.shop,.int .i64 t.d.seq,.int .i64 t.d.index,.slice (encTys t.kids) false]:=by
 cases t;simp only[encTy,Ty.kind,Ty.d,Ty.kids]
theorem encEx_eq (e:Ex):encEx e=[.int .i64 e.id.shop,.int .i64 e.id.seq,.int .i64 e.id.index,.int .i64 e.kind,.int .i64 e.n,.int .i64 e.ref.shop,.int .i64 e.ref.seq,.int .i64 e.ref.index,
   .int .i64 e.tk,.int .i64 e.td.shop,.int .i64 e.td.seq,.int .i64 e.td.index,encNil (e.tks.map encTys),.slice (encExs e.kids) false,encNil (e.names.map strs)]:=by
 cases e;simp only[encEx,Ex.id,Ex.kind,Ex.n,Ex.ref,Ex.tk,Ex.td,Ex.tks,Ex.kids,Ex.names]
theorem exs_len {l:List Ex} : (encExs l).length=l.length:=by rw[encExs_map];simp
theorem tys_len {l:List Ty} : (encTys l).length=l.length:=by rw[encTys_map];simp
theorem ids_len {l:List Id} : (encIds l).length=l.length:=by simp[encIds]
theorem exs_at {l:List Ex} {i:Nat} {e:Ex} (h:l[i]?=some e):(encExs l)[i]?=some (encEx e):=by rw[encExs_map];simp[h]
theorem tys_at {l:List Ty} {i:Nat} {e:Ty} (h:l[i]?=some e):(encTys l)[i]?=some (encTy e):=by rw[encTys_map];simp[h]
theorem ids_at {l:List Id} {i:Nat} {e:Id} (h:l[i]?=some e):(encIds l)[i]?=some (encId e):=by simp[encIds,h]
theorem flat_id {i j:Id} : eqFlat [.i,.i,.i] [.int .i64 i.shop,.int .i64 i.seq,.int .i64 i.index] [.int .i64 j.shop,.int .i64 j.seq,.int .i64 j.index]=some (i==j):=by
 obtain⟨a,b,c⟩:=i
 obtain⟨x,y,z⟩:=j
 simp only[eqFlat,decide_true,cond_true,Option.map_some,Bool.and_true,Option.some.injEq]
 rw[Bool.eq_iff_iff]
 simp
theorem bin_flat {op:BinOp} {ks:List CK} {c:Bool} {xs ys:List AV} : binAV op (.flat ks) c (.agg xs) (.agg ys)=(eqFlat ks xs ys).bind fun b=>nilCmp op b:=rfl
mutual
def hasE (x:Id):Ex→Bool
 | .mk i _ _ _ _ _ _ ks _=>i==x || hasEs x ks
def hasEs (x:Id):List Ex→Bool
 | []=>false
 | e :: r=>hasE x e || hasEs x r
end
theorem hasEs_any (x:Id):∀ l,hasEs x l=l.any (hasE x)
 | []=>by simp[hasEs]
 | e :: r=>by simp[hasEs,hasEs_any x r]
theorem hasE_eq (x:Id) (e:Ex):hasE x e=(e.id==x || e.kids.any (hasE x)):=by
 cases e;simp only[hasE,Ex.id,Ex.kids,hasEs_any]
mutual
def sizeE:Ex→Nat
 | .mk _ _ _ _ _ _ _ ks _=>1+sizeEs ks
def sizeEs:List Ex→Nat
 | []=>0
 | e :: r=>sizeE e+sizeEs r
end
theorem sizeEs_mem:∀ {l:List Ex} {e:Ex},e∈l→sizeE e≤sizeEs l
 | [],e,h=>by cases h
 | a :: r,e,h=>by
  simp only[sizeEs]
  rcases List.mem_cons.1 h with rfl|h
  ·omega
  ·have:=sizeEs_mem h;omega
theorem sizeE_kid {e k:Ex} (h:k∈e.kids):sizeE k<sizeE e:=by
 cases e with
 | mk i kd n r t td tks ks ns =>
  simp only[Ex.kids] at h
  have:=sizeEs_mem h
  simp only[sizeE];omega
inductive ExLen:Ex→Prop where
 | mk (i:Id) (k n:Int) (r:Id) (tk:Int) (td:Id) (tks:Option (List Ty)) (ks:List Ex) (ns:Option (List Str)) (h1:ks.length≤1000000000) (h:∀ e∈ks,ExLen e):ExLen (.mk i k n r tk td tks ks ns)
theorem ExLen.len {e:Ex} (h:ExLen e):e.kids.length≤1000000000:=by cases h;assumption
theorem ExLen.kid {e k:Ex} (h:ExLen e) (hk:k∈e.kids):ExLen k:=by cases h;rename_i h;exact h k hk
def idxF {α:Type} (p:α→Bool):List α→Nat→Int
 | [],_=>-1
 | a :: l,i=>if p a then i else idxF p l (i+1)
theorem idxF_any {α:Type} (p:α→Bool):∀ (l:List α) (i:Nat),decide (0≤idxF p l i)=l.any p
 | [],i=>by simp[idxF]
 | a :: l,i=>by
  unfold idxF
  cases h:p a with
  | true=>simp[h]
  | false=>simp only[Bool.false_eq_true,if_false,List.any_cons,h,Bool.false_or];exact idxF_any p l (i+1)
theorem idxF_drop {α:Type} (p:α→Bool) {l:List α} {i:Nat} (h:i<l.length):idxF p (l.drop i) i=if p l[i] then (i:Int) else idxF p (l.drop (i+1)) (i+1):=by
 rw[List.drop_eq_getElem_cons h];rfl
theorem indexE_D (l:List Ex) (p:Ex→Bool) (f:FuncId) (xs:List AV) (H:AHeap) (hl:l.length≤9223372036854775806) (hp:∀ e∈l,callD A f (.agg (encEx e) :: xs) H=some (.bool (p e),none)) :
  callD A 80 [.slice (encExs l) false,.func (.func f) [] xs] H=some (.int .i64 (idxF p l 0),none):=by
 refine callD_W (fn:=ir80) rfl rfl rfl ?_
 unfold ir80;dsimp only[oQ,oP,iR,oM,oT,oL,oG,oH,oI,oF,oX,oA,oN,oS,oB,oR,oK,oC,iT,iC,iZ,iE]
 simp (disch:=omega) only[evB,↓reduceIte,Nat.reduceEqDiff,Nat.reduceBEq,Nat.reduceAdd,Nat.reduceMul,reduceCtorEq,Nat.reduceLeDiff,Int.reduceEq,Int.reduceLT,Int.reduceLE,Int.reduceBEq,Int.reduceBNe,Int.reduceAdd,Int.reduceNeg,Int.reduceSub,Int.reduceMul,exs_len]
 refine W_count l.length (fun i=>Hd (fun T=>T 0=.slice (encExs l) false∧T 1=.func (.func f) [] xs∧T 6=.slice (encExs l) false∧T 7=.int .i64 l.length∧T 8=.int .i64 i∧idxF p l 0=idxF p (l.drop i) i) H H.length 0) ?_ 0 _ (Nat.zero_le _) ?_
 ·rintro i s hi hs
  obtain⟨T,rfl,h0,h1,h6,h7,h8,hc⟩:=hs.out
  by_cases h:i<l.length
  ·have hg:=exs_at (List.getElem?_eq_getElem h)
   have hq:=hp _ (List.getElem_mem h)
   rw[idxF_drop p h] at hc
   generalize l[i]=e at hg hq hc
   rw[encEx_eq] at hg hq
   cases hb:p e with
   | true =>
    rw[hb] at hq hc
    simp (disch:=omega) only[evO,↓reduceIte,Nat.reduceEqDiff,Nat.reduceBEq,Nat.reduceAdd,Nat.reduceMul,reduceCtorEq,Nat.reduceLeDiff,Int.reduceEq,Int.reduceLT,Int.reduceLE,Int.reduceBEq,Int.reduceBNe,Int.reduceAdd,Int.reduceNeg,Int.reduceSub,Int.reduceMul,h0,h1,h6,h7,h8,hg,callF,hq]
    simp only[hc,if_true]
   | false =>
    rw[hb] at hq hc
    simp (disch:=omega) only[evO,↓reduceIte,Nat.reduceEqDiff,Nat.reduceBEq,Nat.reduceAdd,Nat.reduceMul,reduceCtorEq,Nat.reduceLeDiff,Int.reduceEq,Int.reduceLT,Int.reduceLE,Int.reduceBEq,Int.reduceBNe,Int.reduceAdd,Int.reduceNeg,Int.reduceSub,Int.reduceMul,h0,h1,h6,h7,h8,hg,callF,hq]
    exact⟨h,by simpa using hc⟩
  ·have:i=l.length:=by omega
   subst this
   simp (disch:=omega) only[evO,↓reduceIte,Nat.reduceEqDiff,Nat.reduceBEq,Nat.reduceAdd,Nat.reduceMul,reduceCtorEq,Nat.reduceLeDiff,Int.reduceEq,Int.reduceLT,Int.reduceLE,Int.reduceBEq,Int.reduceBNe,Int.reduceAdd,Int.reduceNeg,Int.reduceSub,Int.reduceMul,h0,h1,h6,h7,h8]
   simp[hc,idxF]
 ·simp (disch:=omega) only[evB,↓reduceIte,Nat.reduceEqDiff,Nat.reduceBEq,Nat.reduceAdd,Nat.reduceMul,reduceCtorEq,Nat.reduceLeDiff,Int.reduceEq,Int.reduceLT,Int.reduceLE,Int.reduceBEq,Int.reduceBNe,Int.reduceAdd,Int.reduceNeg,Int.reduceSub,Int.reduceMul,List.drop_zero,Int.natCast_zero]
theorem containsE_D (l:List Ex) (p:Ex→Bool) (f:FuncId) (xs:List AV) (H:AHeap) (hl:l.length≤9223372036854775806) (hp:∀ e∈l,callD A f (.agg (encEx e) :: xs) H=some (.bool (p e),none)) :
  callD A 67 [.slice (encExs l) false,.func (.func f) [] xs] H=some (.bool (l.any p),none):=by
 refine callD_W (fn:=ir67) rfl rfl rfl ?_
 unfold ir67;dsimp only[oQ,oP,iR,oM,oT,oL,oG,oH,oI,oF,oX,oA,oN,oS,oB,oR,oK,oC,iT,iC,iZ,iE]
 simp (disch:=omega) only[evB,↓reduceIte,Nat.reduceEqDiff,Nat.reduceBEq,Nat.reduceAdd,Nat.reduceMul,reduceCtorEq,Nat.reduceLeDiff,Int.reduceEq,Int.reduceLT,Int.reduceLE,Int.reduceBEq,Int.reduceBNe,Int.reduceAdd,Int.reduceNeg,Int.reduceSub,Int.reduceMul,indexE_D l p f xs H hl hp,ge_iff_le,idxF_any]
theorem has1_D {n:Nat} (ih:∀ (e:Ex) (x:Id) (H:AHeap),sizeE e<n→ExLen e→callD A 50 [.agg (encEx e),.agg (encId x)] H=some (.bool (hasE x e),none)) (e:Ex) (x:Id) (h:sizeE e<n) (hl:ExLen e) (H:AHeap) (l:Nat) (hH:H[l]?=some (.box 36 (encId x))) (hlt:l<H.length) :
  callD A 68 [.agg (encEx e),.ref l 0] H=some (.bool (hasE x e),none):=by
 refine callD_W (fn:=ir68) rfl rfl rfl ?_
 unfold ir68;dsimp only[oQ,oP,iR,oM,oT,oL,oG,oH,oI,oF,oX,oA,oN,oS,oB,oR,oK,oC,iT,iC,iZ,iE]
 have e1:(H++[AObj.box 61 (encEx e)])[l]?=some (.box 36 (encId x)):=by rw[List.getElem?_append_left hlt];exact hH
 have hh:=ih e x (H++[AObj.box 61 (encEx e)]) h hl
 rw[encEx_eq,encId] at *
 simp (disch:=omega) only[evO,↓reduceIte,Nat.reduceEqDiff,Nat.reduceBEq,Nat.reduceAdd,Nat.reduceMul,reduceCtorEq,Nat.reduceLeDiff,Int.reduceEq,Int.reduceLT,Int.reduceLE,Int.reduceBEq,Int.reduceBNe,Int.reduceAdd,Int.reduceNeg,Int.reduceSub,Int.reduceMul,e1,hh]
theorem indexE_kid {n:Nat} (ih:∀ (e:Ex) (x:Id) (H:AHeap),sizeE e<n→ExLen e→callD A 50 [.agg (encEx e),.agg (encId x)] H=some (.bool (hasE x e),none)) (e:Ex) (x:Id) (h:sizeE e≤n) (hl:ExLen e) (H:AHeap) (l:Nat) (hH:H[l]?=some (.box 36 (encId x))) (hlt:l<H.length) :
  callD A 67 [.slice (encExs e.kids) false,.func (.func 68) [] [.ref l 0]] H=some (.bool (e.kids.any (hasE x)),none) :=
 containsE_D e.kids (hasE x) 68 [.ref l 0] H (by have:=hl.len;omega) (fun k hk=>has1_D ih k x (by have:=sizeE_kid hk;omega) (hl.kid hk) H l hH hlt)
theorem has_D:∀ (n:Nat) (e:Ex) (x:Id) (H:AHeap),sizeE e<n→ExLen e→callD A 50 [.agg (encEx e),.agg (encId x)] H=some (.bool (hasE x e),none)
 | 0,e,x,H,h,_=>by omega
 | n+1,e,x,H,h,hl=>by
  have hk:=fun H l hH hlt=>indexE_kid (fun e x H h hl=>has_D n e x H h hl) e x (by omega) hl H l hH hlt
  have hk':=hk (H++[.box 61 (encEx e),.box 36 (encId x)]) (H.length+1) (by simp) (by simp)
  refine callD_W (fn:=ir50) rfl rfl rfl ?_
  unfold ir50;dsimp only[oQ,oP,iR,oM,oT,oL,oG,oH,oI,oF,oX,oA,oN,oS,oB,oR,oK,oC,iT,iC,iZ,iE]
  rw[hasE_eq]
  rw[encEx_eq,encId] at hk' ⊢
  cases hb:(e.id==x) with
  | true=>simp (disch:=omega) only[evO,↓reduceIte,Nat.reduceEqDiff,Nat.reduceBEq,Nat.reduceAdd,Nat.reduceMul,reduceCtorEq,Nat.reduceLeDiff,Int.reduceEq,Int.reduceLT,Int.reduceLE,Int.reduceBEq,Int.reduceBNe,Int.reduceAdd,Int.reduceNeg,Int.reduceSub,Int.reduceMul,bin_flat,flat_id,hb]
  | false=>simp (disch:=omega) only[evO,↓reduceIte,Nat.reduceEqDiff,Nat.reduceBEq,Nat.reduceAdd,Nat.reduceMul,reduceCtorEq,Nat.reduceLeDiff,Int.reduceEq,Int.reduceLT,Int.reduceLE,Int.reduceBEq,Int.reduceBNe,Int.reduceAdd,Int.reduceNeg,Int.reduceSub,Int.reduceMul,bin_flat,flat_id,hb,hk']
theorem in_D:∀ (n:Nat) (e:Ex) (x:Id) (H:AHeap),sizeE e<n→ExLen e→callD A 69 [.agg (encEx e),.agg (encId x)] H=some (.bool (hasE x e),none)
 | 0,e,x,H,h,_=>by omega
 | n+1,e,x,H,h,hl=>by
  refine callD_W (fn:=ir69) rfl rfl rfl ?_
  unfold ir69;dsimp only[oQ,oP,iR,oM,oT,oL,oG,oH,oI,oF,oX,oA,oN,oS,oB,oR,oK,oC,iT,iC,iZ,iE]
  have ih:=fun k H (hk:k∈e.kids)=>in_D n k x H (by have:=sizeE_kid hk;omega) (hl.kid hk)
  have hlen:=hl.len
  rw[hasE_eq,encEx_eq,encId]
  cases hb:(e.id==x) with
  | true=>simp (disch:=omega) only[evO,↓reduceIte,Nat.reduceEqDiff,Nat.reduceBEq,Nat.reduceAdd,Nat.reduceMul,reduceCtorEq,Nat.reduceLeDiff,Int.reduceEq,Int.reduceLT,Int.reduceLE,Int.reduceBEq,Int.reduceBNe,Int.reduceAdd,Int.reduceNeg,Int.reduceSub,Int.reduceMul,bin_flat,flat_id,hb]
  | false =>
   simp (disch:=omega) only[evO,↓reduceIte,Nat.reduceEqDiff,Nat.reduceBEq,Nat.reduceAdd,Nat.reduceMul,reduceCtorEq,Nat.reduceLeDiff,Int.reduceEq,Int.reduceLT,Int.reduceLE,Int.reduceBEq,Int.reduceBNe,Int.reduceAdd,Int.reduceNeg,Int.reduceSub,Int.reduceMul,bin_flat,flat_id,hb]
   refine W_countx e.kids.length 0 (fun i=>Hd (fun T=>T 2=.ref H.length 0∧T 3=.ref (H.length+1) 0∧T 5=.int .i64 i∧(e.kids.take i).any (hasE x)=false) (H++[.box 61 (encEx e),.box 36 (encId x)]) H.length 0)
    (Hd (fun T=>e.kids.any (hasE x)=false) (H++[.box 61 (encEx e),.box 36 (encId x)]) H.length 0) (Hd (fun T=>T 4=.bool true∧e.kids.any (hasE x)=true) (H++[.box 61 (encEx e),.box 36 (encId x)]) H.length 0) ?_ ?_ ?_ 0 _ (by omega) ?_
   ·rintro i st hi hst
    obtain⟨T,rfl,h2,h3,h5,hc⟩:=hst.out
    by_cases h:i<e.kids.length
    ·have hg:=exs_at (List.getElem?_eq_getElem h)
     have hmem:=List.getElem_mem h
     have hq:=ih e.kids[i] (H++[.box 61 (encEx e),.box 36 (encId x)]) hmem
     have htk:(e.kids.take (i+1)).any (hasE x)=(hasE x e.kids[i]):=by rw[List.take_succ_eq_append_getElem h,List.any_append,hc];simp
     generalize e.kids[i]=k at hg hq hmem htk
     rw[encEx_eq k] at hg hq
     rw[encEx_eq,encId] at hq ⊢
     cases hv:hasE x k with
     | true =>
      rw[hv] at hq
      simp (disch:=omega) only[evO,↓reduceIte,Nat.reduceEqDiff,Nat.reduceBEq,Nat.reduceAdd,Nat.reduceMul,reduceCtorEq,Nat.reduceLeDiff,Int.reduceEq,Int.reduceLT,Int.reduceLE,Int.reduceBEq,Int.reduceBNe,Int.reduceAdd,Int.reduceNeg,Int.reduceSub,Int.reduceMul,h2,h3,h5,exs_len,hg,hq]
      exact List.any_eq_true.2 ⟨k,hmem,hv⟩
     | false =>
      rw[hv] at hq htk
      simp (disch:=omega) only[evO,↓reduceIte,Nat.reduceEqDiff,Nat.reduceBEq,Nat.reduceAdd,Nat.reduceMul,reduceCtorEq,Nat.reduceLeDiff,Int.reduceEq,Int.reduceLT,Int.reduceLE,Int.reduceBEq,Int.reduceBNe,Int.reduceAdd,Int.reduceNeg,Int.reduceSub,Int.reduceMul,h2,h3,h5,exs_len,hg,hq]
      exact⟨h,htk⟩
    ·have:i=e.kids.length:=by omega
     subst this
     rw[List.take_length] at hc
     rw[encEx_eq,encId]
     simp (disch:=omega) only[evO,↓reduceIte,Nat.reduceEqDiff,Nat.reduceBEq,Nat.reduceAdd,Nat.reduceMul,reduceCtorEq,Nat.reduceLeDiff,Int.reduceEq,Int.reduceLT,Int.reduceLE,Int.reduceBEq,Int.reduceBNe,Int.reduceAdd,Int.reduceNeg,Int.reduceSub,Int.reduceMul,h2,h3,h5,exs_len]
     exact hc
   ·intro st hst
    obtain⟨T,rfl,hc⟩:=hst.out
    rw[encEx_eq,encId]
    simp (disch:=omega) only[evO,↓reduceIte,Nat.reduceEqDiff,Nat.reduceBEq,Nat.reduceAdd,Nat.reduceMul,reduceCtorEq,Nat.reduceLeDiff,Int.reduceEq,Int.reduceLT,Int.reduceLE,Int.reduceBEq,Int.reduceBNe,Int.reduceAdd,Int.reduceNeg,Int.reduceSub,Int.reduceMul,hc]
   ·intro st hst
    obtain⟨T,rfl,h4,hc⟩:=hst.out
    rw[encEx_eq,encId]
    simp (disch:=omega) only[evO,↓reduceIte,Nat.reduceEqDiff,Nat.reduceBEq,Nat.reduceAdd,Nat.reduceMul,reduceCtorEq,Nat.reduceLeDiff,Int.reduceEq,Int.reduceLT,Int.reduceLE,Int.reduceBEq,Int.reduceBNe,Int.reduceAdd,Int.reduceNeg,Int.reduceSub,Int.reduceMul,hc,h4]
   ·rw[encEx_eq,encId]
    simp (disch:=omega) only[evO,↓reduceIte,Nat.reduceEqDiff,Nat.reduceBEq,Nat.reduceAdd,Nat.reduceMul,reduceCtorEq,Nat.reduceLeDiff,Int.reduceEq,Int.reduceLT,Int.reduceLE,Int.reduceBEq,Int.reduceBNe,Int.reduceAdd,Int.reduceNeg,Int.reduceSub,Int.reduceMul,Int.natCast_zero]
    simp
end Go.Proofs.YtemfofdaemgjgaaGreatDoor
end
section
set_option linter.unusedSimpArgs false
set_option linter.unusedVariables false
set_option maxRecDepth 100000
namespace Go.Proofs.YtemfofdaemgjgaaGreatDoor
open Go Go.Abs Go.Proofs
structure Slot where
 id:Id
 name:Str
 ty:Ty
 most:Int
 place:Int
structure Mod where
 id:Id
 name:Str
 uses:List Id
 defs:List Id
structure Def where
 id:Id
 kind:Int
 mod:Id
 name:Str
 slots:List Slot
 result:Ty
 body:Ex
 place:Int
 layout:List Str
structure Prog where
 mods:List Mod
 defs:List Def
def encSlot (s:Slot):List AV:=[.int .i64 s.id.shop,.int .i64 s.id.seq,.int .i64 s.id.index,.str s.name,.int .i64 s.ty.kind,.int .i64 s.ty.d.shop,.int .i64 s.ty.d.seq,.int .i64 s.ty.d.index,.slice (encTys s.ty.kids) false,.int .i64 s.most,.int .i64 s.place]
def encSlots (l:List Slot):List (List AV):=l.map encSlot
def encMod (m:Mod):List AV:=[.int .i64 m.id.shop,.int .i64 m.id.seq,.int .i64 m.id.index,.str m.name,.slice (encIds m.uses) false,.slice (encIds m.defs) false]
def encMods (l:List Mod):List (List AV):=l.map encMod
def encDef (d:Def):List AV:=[.int .i64 d.id.shop,.int .i64 d.id.seq,.int .i64 d.id.index,.int .i64 d.kind,.int .i64 d.mod.shop,.int .i64 d.mod.seq,.int .i64 d.mod.index,.str d.name,.slice (encSlots d.slots) false,
 .int .i64 d.result.kind,.int .i64 d.result.d.shop,.int .i64 d.result.d.seq,.int .i64 d.result.d.index,.slice (encTys d.result.kids) false,
 .int .i64 d.body.id.shop,.int .i64 d.body.id.seq,.int .i64 d.body.id.index,.int .i64 d.body.kind,.int .i64 d.body.n,.int .i64 d.body.ref.shop,.int .i64 d.body.ref.seq,.int .i64 d.body.ref.index,
 .int .i64 d.body.tk,.int .i64 d.body.td.shop,.int .i64 d.body.td.seq,.int .i64 d.body.td.index,encNil (d.body.tks.map encTys),.slice (encExs d.body.kids) false,encNil (d.body.names.map strs),
 .int .i64 d.place,.slice (strs d.layout) false]
def encDefs (l:List Def):List (List AV):=l.map encDef
theorem slots_len {l:List Slot} : (encSlots l).length=l.length:=by simp[encSlots]
theorem mods_len {l:List Mod} : (encMods l).length=l.length:=by simp[encMods]
theorem defs_len {l:List Def} : (encDefs l).length=l.length:=by simp[encDefs]
theorem slots_at {l:List Slot} {i:Nat} {e:Slot} (h:l[i]?=some e):(encSlots l)[i]?=some (encSlot e):=by simp[encSlots,h]
theorem mods_at {l:List Mod} {i:Nat} {e:Mod} (h:l[i]?=some e):(encMods l)[i]?=some (encMod e):=by simp[encMods,h]
theorem defs_at {l:List Def} {i:Nat} {e:Def} (h:l[i]?=some e):(encDefs l)[i]?=some (encDef e):=by simp[encDefs,h]
theorem ids_rows {l:List Id} : RowsB 3 (encIds l) :=
 ⟨fun r hr=>by simp only[encIds,List.mem_map] at hr;obtain⟨n,_,rfl⟩:=hr;rfl,nb_all fun r hr=>by simp only[encIds,List.mem_map] at hr;obtain⟨n,_,rfl⟩:=hr;rfl⟩
theorem app_ids {l m:List Id} {o:Bool} (h:l.length+m.length≤1099511627776):appendAV false 3 24 (.slice (encIds l) true) (.slice (encIds m) o)=some (.slice (encIds (l++m)) true):=by
 rw[app_ok ids_rows ids_rows (by rw[ids_len,ids_len];omega) (by rw[ids_len,ids_len];omega)];simp[encIds]
theorem app_id {l:List Id} {i:Id} {o:Bool} (h:l.length≤1099511627775) :
  appendAV false 3 24 (.slice (encIds l) true) (.slice [[.int .i64 i.shop,.int .i64 i.seq,.int .i64 i.index]] o)=some (.slice (encIds (l++[i])) true):=app_ids (m:=[i]) (by simp;omega)
structure ProgB (p:Prog):Prop where
 mods:p.mods.length≤1000000
 defs:p.defs.length≤1000000
 slots:∀ d∈p.defs,d.slots.length≤1000000
 body:∀ d∈p.defs,ExLen d.body
def ownD (x:Id) (d:Def):Bool:=d.id==x || d.slots.any fun s=>s.id==x
def bodyD (d:Def):Bool:=d.kind != 0&&d.kind != 1
def inD (x:Id) (d:Def):Bool:=ownD x d || bodyD d&&hasE x d.body
def modsOf (p:Prog) (x:Id):List Id:=(p.mods.filter fun m=>m.id==x).map (fun _=>x)++(p.defs.filter (inD x)).map (·.mod)
def isOf (p:Prog) (x:Id):Bool:=p.mods.any (fun m=>m.id==x) || p.defs.any (ownD x)
theorem take_snoc {α:Type} {l:List α} {i:Nat} (h:i<l.length):l.take (i+1)=l.take i++[l[i]]:=List.take_succ_eq_append_getElem h
theorem indexS_D (l:List Slot) (p:Slot→Bool) (f:FuncId) (xs:List AV) (H:AHeap) (hl:l.length≤9223372036854775806) (hp:∀ e∈l,callD A f (.agg (encSlot e) :: xs) H=some (.bool (p e),none)) :
  callD A 66 [.slice (encSlots l) false,.func (.func f) [] xs] H=some (.int .i64 (idxF p l 0),none):=by
 refine callD_W (fn:=ir66) rfl rfl rfl ?_
 unfold ir66;dsimp only[oQ,oP,iR,oM,oT,oL,oG,oH,oI,oF,oX,oA,oN,oS,oB,oR,oK,oC,iT,iC,iZ,iE]
 simp (disch:=omega) only[evB,↓reduceIte,Nat.reduceEqDiff,Nat.reduceBEq,Nat.reduceAdd,Nat.reduceMul,reduceCtorEq,Nat.reduceLeDiff,Int.reduceEq,Int.reduceLT,Int.reduceLE,Int.reduceBEq,Int.reduceBNe,Int.reduceAdd,Int.reduceNeg,Int.reduceSub,Int.reduceMul,slots_len]
 refine W_count l.length (fun i=>Hd (fun T=>T 0=.slice (encSlots l) false∧T 1=.func (.func f) [] xs∧T 6=.slice (encSlots l) false∧T 7=.int .i64 l.length∧T 8=.int .i64 i∧idxF p l 0=idxF p (l.drop i) i) H H.length 0) ?_ 0 _ (Nat.zero_le _) ?_
 ·rintro i s hi hs
  obtain⟨T,rfl,h0,h1,h6,h7,h8,hc⟩:=hs.out
  by_cases h:i<l.length
  ·have hg:=slots_at (List.getElem?_eq_getElem h)
   have hq:=hp _ (List.getElem_mem h)
   rw[idxF_drop p h] at hc
   generalize l[i]=e at hg hq hc
   rw[encSlot] at hg hq
   cases hb:p e with
   | true =>
    rw[hb] at hq hc
    simp (disch:=omega) only[evO,↓reduceIte,Nat.reduceEqDiff,Nat.reduceBEq,Nat.reduceAdd,Nat.reduceMul,reduceCtorEq,Nat.reduceLeDiff,Int.reduceEq,Int.reduceLT,Int.reduceLE,Int.reduceBEq,Int.reduceBNe,Int.reduceAdd,Int.reduceNeg,Int.reduceSub,Int.reduceMul,h0,h1,h6,h7,h8,hg,callF,hq]
    simp only[hc,if_true]
   | false =>
    rw[hb] at hq hc
    simp (disch:=omega) only[evO,↓reduceIte,Nat.reduceEqDiff,Nat.reduceBEq,Nat.reduceAdd,Nat.reduceMul,reduceCtorEq,Nat.reduceLeDiff,Int.reduceEq,Int.reduceLT,Int.reduceLE,Int.reduceBEq,Int.reduceBNe,Int.reduceAdd,Int.reduceNeg,Int.reduceSub,Int.reduceMul,h0,h1,h6,h7,h8,hg,callF,hq]
    exact⟨h,by simpa using hc⟩
  ·have:i=l.length:=by omega
   subst this
   simp (disch:=omega) only[evO,↓reduceIte,Nat.reduceEqDiff,Nat.reduceBEq,Nat.reduceAdd,Nat.reduceMul,reduceCtorEq,Nat.reduceLeDiff,Int.reduceEq,Int.reduceLT,Int.reduceLE,Int.reduceBEq,Int.reduceBNe,Int.reduceAdd,Int.reduceNeg,Int.reduceSub,Int.reduceMul,h0,h1,h6,h7,h8]
   simp[hc,idxF]
 ·simp (disch:=omega) only[evB,↓reduceIte,Nat.reduceEqDiff,Nat.reduceBEq,Nat.reduceAdd,Nat.reduceMul,reduceCtorEq,Nat.reduceLeDiff,Int.reduceEq,Int.reduceLT,Int.reduceLE,Int.reduceBEq,Int.reduceBNe,Int.reduceAdd,Int.reduceNeg,Int.reduceSub,Int.reduceMul,List.drop_zero,Int.natCast_zero]
theorem containsS_D (l:List Slot) (p:Slot→Bool) (f:FuncId) (xs:List AV) (H:AHeap) (hl:l.length≤9223372036854775806) (hp:∀ e∈l,callD A f (.agg (encSlot e) :: xs) H=some (.bool (p e),none)) :
  callD A 47 [.slice (encSlots l) false,.func (.func f) [] xs] H=some (.bool (l.any p),none):=by
 refine callD_W (fn:=ir47) rfl rfl rfl ?_
 unfold ir47;dsimp only[oQ,oP,iR,oM,oT,oL,oG,oH,oI,oF,oX,oA,oN,oS,oB,oR,oK,oC,iT,iC,iZ,iE]
 simp (disch:=omega) only[evB,↓reduceIte,Nat.reduceEqDiff,Nat.reduceBEq,Nat.reduceAdd,Nat.reduceMul,reduceCtorEq,Nat.reduceLeDiff,Int.reduceEq,Int.reduceLT,Int.reduceLE,Int.reduceBEq,Int.reduceBNe,Int.reduceAdd,Int.reduceNeg,Int.reduceSub,Int.reduceMul,indexS_D l p f xs H hl hp,ge_iff_le,idxF_any]
theorem slotIs_D (s:Slot) (x:Id) (H:AHeap) (l:Nat) (hH:H[l]?=some (.box 36 (encId x))) (hlt:l<H.length):callD A 48 [.agg (encSlot s),.ref l 0] H=some (.bool (s.id==x),none):=by
 refine callD_W (fn:=ir48) rfl rfl rfl ?_
 unfold ir48;dsimp only[oQ,oP,iR,oM,oT,oL,oG,oH,oI,oF,oX,oA,oN,oS,oB,oR,oK,oC,iT,iC,iZ,iE]
 have e1:(H++[AObj.box 65 (encSlot s)])[l]?=some (.box 36 (encId x)):=by rw[List.getElem?_append_left hlt];exact hH
 rw[encSlot,encId] at *
 simp (disch:=omega) only[evO,↓reduceIte,Nat.reduceEqDiff,Nat.reduceBEq,Nat.reduceAdd,Nat.reduceMul,reduceCtorEq,Nat.reduceLeDiff,Int.reduceEq,Int.reduceLT,Int.reduceLE,Int.reduceBEq,Int.reduceBNe,Int.reduceAdd,Int.reduceNeg,Int.reduceSub,Int.reduceMul,e1,bin_flat,flat_id]
theorem body_D (d:Def) (H:AHeap):callD A 49 [.agg (encDef d)] H=some (.bool (bodyD d),none):=by
 refine callD_W (fn:=ir49) rfl rfl rfl ?_
 unfold ir49;dsimp only[oQ,oP,iR,oM,oT,oL,oG,oH,oI,oF,oX,oA,oN,oS,oB,oR,oK,oC,iT,iC,iZ,iE]
 rw[encDef,bodyD]
 by_cases h0:d.kind=0
 ·simp (disch:=omega) only[evO,↓reduceIte,Nat.reduceEqDiff,Nat.reduceBEq,Nat.reduceAdd,Nat.reduceMul,reduceCtorEq,Nat.reduceLeDiff,Int.reduceEq,Int.reduceLT,Int.reduceLE,Int.reduceBEq,Int.reduceBNe,Int.reduceAdd,Int.reduceNeg,Int.reduceSub,Int.reduceMul,h0]
  try rfl
 ·simp (disch:=omega) only[evO,↓reduceIte,Nat.reduceEqDiff,Nat.reduceBEq,Nat.reduceAdd,Nat.reduceMul,reduceCtorEq,Nat.reduceLeDiff,Int.reduceEq,Int.reduceLT,Int.reduceLE,Int.reduceBEq,Int.reduceBNe,Int.reduceAdd,Int.reduceNeg,Int.reduceSub,Int.reduceMul,h0]
end Go.Proofs.YtemfofdaemgjgaaGreatDoor
end
