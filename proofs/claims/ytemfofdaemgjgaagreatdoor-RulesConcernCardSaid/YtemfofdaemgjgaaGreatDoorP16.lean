/-
  A part of the proof of RulesConcern: AbsEq, AbsLib8C, AbsOKC, AbsEvC.
-/
import Derived.IntWalk
import Derived.Test.YtemfofdaemgjgaaGreatDoorP15
set_option linter.unusedSimpArgs false
set_option linter.unusedVariables false
section
namespace Go.Abs
set_option linter.unusedSimpArgs false
set_option linter.unusedVariables false
open Go
abbrev I64 (n:Int):Prop:=-9223372036854775808≤n∧n≤9223372036854775807
theorem wrap64 {n:Int} (h:-9223372036854775808≤n∧n≤9223372036854775807):IntKind.i64.wrap n=n:=by
 exact IntWalk.i64_in _ h
theorem asNat_nat {k:IntKind} {n:Nat} : asNat (.int k n)=some n:=by simp[asNat]
theorem asNat_lit {k:IntKind} {n:Nat} : asNat (.int k (no_index (@OfNat.ofNat Int n instOfNat)))=some n:=by
 show asNat (.int k ((n:Nat):Int))=some n
 exact asNat_nat
theorem asNat_add {k:IntKind} {a n:Nat} : asNat (.int k ((a:Int)+no_index (@OfNat.ofNat Int n instOfNat)))=some (a+n):=by
 show asNat (.int k ((a:Int)+((n:Nat):Int)))=some (a+n)
 rw[← Int.natCast_add];exact asNat_nat
theorem asNat_of {k:IntKind} {n:Int} (h:0≤n):asNat (.int k n)=some n.toNat:=by simp[asNat,h]
theorem ble_dec {a b:Nat} : Nat.ble a b=decide (a≤b):=by
 cases h:Nat.ble a b with
 | true=>simp[Nat.le_of_ble_eq_true h]
 | false=>simp[show ¬ a≤b from fun e=>by rw[Nat.ble_eq_true_of_le e] at h;cases h]
theorem blt_dec {a b:Nat} : Nat.blt a b=decide (a<b):=by
 show Nat.ble (a+1) b=_
 rw[ble_dec];rfl
theorem dle {a b:Nat} (h:a≤b):decide (a≤b)=true:=by simp[h]
theorem dlt {a b:Nat} (h:a<b):decide (a<b)=true:=by simp[h]
theorem ilt_t {a b:Int} (h:a<b):decide (a<b)=true:=by simp[h]
theorem ilt_f {a b:Int} (h:b≤a):decide (a<b)=false:=by simp;omega
theorem ile_t {a b:Int} (h:a≤b):decide (a≤b)=true:=by simp[h]
theorem ile_f {a b:Int} (h:b<a):decide (a≤b)=false:=by simp;omega
theorem ieq_t {a b:Int} (h:a=b):(a==b)=true:=by simp[h]
theorem ieq_f {a b:Int} (h:a≠b):(a==b)=false:=by simp[h]
theorem ine_t {a b:Int} (h:a≠b):(a != b)=true:=by simp[h]
theorem ine_f {a b:Int} (h:a=b):(a != b)=false:=by simp[h]
theorem nbeq_f {a b:Nat} (h:a≠b):Nat.beq a b=false:=by
 cases hb:Nat.beq a b with
 | false=>rfl
 | true=>exact absurd (Nat.eq_of_beq_eq_true hb) h
theorem nbeq_t {a b:Nat} (h:a=b):Nat.beq a b=true:=by rw[h];exact Nat.beq_refl b
theorem blt_of {n m:Nat} (h:n<m):Nat.blt n m=true:=by simpa [Nat.blt_eq] using h
theorem beq_tf:(true==false)=false:=rfl
theorem beq_ft:(false==true)=false:=rfl
def ints (l:List Int):List (List AV):=l.map fun n=>[.int .i64 n]
def strs (l:List (List UInt8)):List (List AV):=l.map fun n=>[.str n]
theorem ints_len {l:List Int} : (ints l).length=l.length:=by simp[ints]
theorem strs_len {l:List (List UInt8)} : (strs l).length=l.length:=by simp[strs]
theorem ints_at {l:List Int} {i:Nat} {n:Int} (h:l[i]?=some n):(ints l)[i]?=some [.int .i64 n]:=by simp[ints,h]
theorem strs_at {l:List (List UInt8)} {i:Nat} {n:List UInt8} (h:l[i]?=some n):(strs l)[i]?=some [.str n]:=by simp[strs,h]
theorem ints_get {l:List Int} {i:Nat} : (ints l)[i]?=l[i]?.map fun n=>[.int .i64 n]:=by simp[ints]
theorem strs_get {l:List (List UInt8)} {i:Nat} : (strs l)[i]?=l[i]?.map fun n=>[.str n]:=by simp[strs]
theorem chunks_strs:∀ {l:List (List UInt8)} {n:Nat},n=l.length→chunks 1 n (l.map .str)=strs l
 | [],0,_=>rfl
 | a :: l,n+1,h=>by
  simp only[List.map_cons,chunks,strs,List.take_succ_cons,List.take_zero,List.drop_succ_cons,List.drop_zero]
  rw[chunks_strs (by simpa using h)];rfl
theorem take_strs {l:List (List UInt8)} {n:Nat} (h:l.length≤n):(strs l).take n=strs l:=List.take_of_length_le (by rw[strs_len];exact h)
theorem ints_rows {l:List Int} : RowsB 1 (ints l):=⟨fun r hr=>by simp only[ints,List.mem_map] at hr;obtain⟨n,_,rfl⟩:=hr;rfl,nb_all fun r hr=>by simp only[ints,List.mem_map] at hr;obtain⟨n,_,rfl⟩:=hr;rfl⟩
theorem strs_rows {l:List (List UInt8)} : RowsB 1 (strs l):=⟨fun r hr=>by simp only[strs,List.mem_map] at hr;obtain⟨n,_,rfl⟩:=hr;rfl,nb_all fun r hr=>by simp only[strs,List.mem_map] at hr;obtain⟨n,_,rfl⟩:=hr;rfl⟩
theorem ints_nil:ints []=[]:=rfl
theorem ints_nb {l:List Int} : nb (ints l)=true:=ints_rows.2
theorem strs_nb {l:List (List UInt8)} : nb (strs l)=true:=strs_rows.2
theorem ints_append {l m:List Int} : ints l++ints m=ints (l++m):=by simp[ints]
theorem strs_append {l m:List (List UInt8)} : strs l++strs m=strs (l++m):=by simp[strs]
theorem app_ints {l m:List Int} {o:Bool} (h:l.length+m.length≤1099511627776):appendAV false 1 8 (.slice (ints l) true) (.slice (ints m) o)=some (.slice (ints (l++m)) true):=by
 rw[app_ok ints_rows ints_rows (by rw[ints_len,ints_len];omega) (by rw[ints_len,ints_len];omega),ints_append]
theorem app_int {l:List Int} {n:Int} {o:Bool} (h:l.length≤1099511627775):appendAV false 1 8 (.slice (ints l) true) (.slice [[.int .i64 n]] o)=some (.slice (ints (l++[n])) true):=app_ints (m:=[n]) (by simp;omega)
theorem app_cons {m:List Int} {n:Int} {o:Bool} (h:m.length≤1099511627775):appendAV false 1 8 (.slice [[.int .i64 n]] true) (.slice (ints m) o)=some (.slice (ints (n :: m)) true):=app_ints (l:=[n]) (m:=m) (by simp;omega)
theorem app_int0 {n:Int} {o:Bool} : appendAV false 1 8 (.slice [] true) (.slice [[.int .i64 n]] o)=some (.slice (ints [n]) true):=app_ints (l:=[]) (m:=[n]) (by simp)
theorem app_ints0 {m:List Int} {o:Bool} (h:m.length≤1099511627776):appendAV false 1 8 (.slice [] true) (.slice (ints m) o)=some (.slice (ints m) true):=app_ints (l:=[]) (by simpa using h)
theorem app_strs {l m:List (List UInt8)} {o:Bool} (h:l.length+m.length≤1099511627776):appendAV false 1 16 (.slice (strs l) true) (.slice (strs m) o)=some (.slice (strs (l++m)) true):=by
 rw[app_ok strs_rows strs_rows (by rw[strs_len,strs_len];omega) (by rw[strs_len,strs_len];omega),strs_append]
theorem app_str {l:List (List UInt8)} {n:List UInt8} {o:Bool} (h:l.length≤1099511627775):appendAV false 1 16 (.slice (strs l) true) (.slice [[.str n]] o)=some (.slice (strs (l++[n])) true):=app_strs (m:=[n]) (by simp;omega)
theorem app_str0 {n:List UInt8} {o:Bool} : appendAV false 1 16 (.slice [] true) (.slice [[.str n]] o)=some (.slice (strs [n]) true):=app_strs (l:=[]) (m:=[n]) (by simp)
theorem hp_app {H l m:AHeap} : H++l++m=H++(l++m):=List.append_assoc ..
theorem hp_len {H l:AHeap} : List.length (H++l)=H.length+l.length:=List.length_append
theorem hp_get {H l:AHeap} {k:Nat} : (H++l)[H.length+k]?=l[k]?:=by rw[List.getElem?_append_right (by omega)];simp
theorem hp_get0 {H l:AHeap} : (H++l)[H.length]?=l[0]?:=hp_get (k:=0)
theorem hp_old {H l:AHeap} {i:Nat} (h:i<H.length):(H++l)[i]?=H[i]?:=List.getElem?_append_left h
theorem hp_set {H l:AHeap} {k:Nat} {x:AObj} : (H++l).set (H.length+k) x=H++l.set k x:=by rw[List.set_append_right _ _ (by omega)];simp
theorem hp_set0 {H l:AHeap} {x:AObj} : (H++l).set H.length x=H++l.set 0 x:=hp_set (k:=0)
theorem hp_take {H l:AHeap} : (H++l).take H.length=H:=by simp
theorem hp_lt {n k:Nat} : decide (n+k<n)=false:=by simp
theorem hp_lt0 {n:Nat} : decide (n<n)=false:=by simp
def boxK (A:AP) (ty:TypeId) (v:AV) (t:Nat) (os:List IOper) (T:AFrame) (H:AHeap) (lo gen:Nat) (K:AS→Prop):Prop :=
 bindW (v.drop.cells.bind fun cs=>cond (cs.all (heapCell H.length)) (some (cs.map AV.drop)) none) fun cs=>WO A false os ⟨T.put t (.ref H.length 0),H++[.box ty cs],cond (Nat.blt H.length lo) H.length lo,gen⟩ K
section
variable {A:AP} {T:AFrame} {H:AHeap} {lo gen:Nat} {K:AS→Prop} {d:Bool} {os:List IOper} {t:Nat}
theorem r_boxK {ty:TypeId} {x:IArg} : WO A false (⟨some t,none,.box ty x⟩ :: os) ⟨T,H,lo,gen⟩ K=boxK A ty (x.eval A.glob T) t os T H lo gen K:=by
 rw[state_op rfl]
 simp only[evOp,boxK]
 cases (x.eval A.glob T).drop.cells with
 | none=>simp[bindW]
 | some cs =>
  simp only[Option.bind_some]
  cases cs.all (heapCell H.length) with
  | false=>simp[bindW]
  | true=>simp only[cond_true,bindW_some];rfl
theorem bx_agg {ty:TypeId} {cs:List AV} : boxK A ty (.agg cs) t os T H lo gen K=bindW (cond (cs.all (heapCell H.length)) (some (cs.map AV.drop)) none) fun cs=>WO A false os ⟨T.put t (.ref H.length 0),H++[.box ty cs],cond (Nat.blt H.length lo) H.length lo,gen⟩ K:=rfl
theorem bx_int {ty:TypeId} {k:IntKind} {n:Int} : boxK A ty (.int k n) t os T H lo gen K=WO A false os ⟨T.put t (.ref H.length 0),H++[.box ty [.int k n]],cond (Nat.blt H.length lo) H.length lo,gen⟩ K:=by
 simp only[boxK,AV.drop,AV.cells,Option.bind_some];exact bindW_some
end
theorem hc_int {n:Nat} {k:IntKind} {m:Int} : heapCell n (.int k m)=true:=rfl
theorem hc_bool {n:Nat} {b:Bool} : heapCell n (.bool b)=true:=rfl
theorem hc_str {n:Nat} {s:List UInt8} : heapCell n (.str s)=true:=rfl
theorem hc_slice {n:Nat} {e:List (List AV)} {o:Bool} : heapCell n (.slice e o)=true:=rfl
theorem hc_sref {n l o k z:Nat} : heapCell n (.sref l o k z)=Nat.ble l n:=rfl
theorem hc_ref {n l o:Nat} : heapCell n (.ref l o)=Nat.ble l n:=rfl
theorem hc_nil {n:Nat} : heapCell n .nilptr=true:=rfl
def chkG (A:AP) (d:Bool) (v:AV) (w:Bool) (p:Bool) (os:List IOper) (T:AFrame) (H:AHeap) (lo gen:Nat) (K:AS→Prop):Prop :=
 bindW (match v with|.bool b=>some (b==w)|.tuple []=>some false|_=>none) fun b=>(b=true→p=true)∧WO A d os ⟨T,H,lo,gen⟩ K
def boxLK (A:AP) (v:AV) (t:Nat) (os:List IOper) (T:AFrame) (H:AHeap) (lo gen:Nat) (K:AS→Prop):Prop :=
 bindW v.drop.cells fun cs=>WO A false os ⟨T.put t (.lbox gen (cs.map AV.drop)),H,lo,gen+1⟩ K
def callPK (A:AP) (d:Bool) (r:Option (AV × Option Chg)) (t:Nat) (os:List IOper) (T:AFrame) (H:AHeap) (lo gen:Nat) (K:AS→Prop):Prop :=
 bindW (r.bind fun r=>match r.2 with
  | none=>cond (d&&(genOf r.1).isSome) none (some r.1)
  | some _=>none) fun v=>WO A d os ⟨T.put t v,H,lo,gen⟩ K
section
variable {A:AP} {T:AFrame} {H:AHeap} {lo gen:Nat} {K:AS→Prop} {d:Bool} {os:List IOper} {t:Nat}
theorem r_chk {c:Cls} {x:IArg} : WO A d (⟨none,none,.chk c x⟩ :: os) ⟨T,H,lo,gen⟩ K=(clsOk c (x.addr A.glob T)=true∧WO A d os ⟨T,H,lo,gen⟩ K):=by
 rw[WO_cons]
 simp only[evOper,evOp]
 refine propext ?_
 cases clsOk c (x.addr A.glob T) with
 | false=>simp[bindW]
 | true=>simp[bindW,genOf,AS.putD]
theorem r_chkg {g:Nat} {w:Bool} {c:Cls} {x:IArg} : WO A d (⟨none,some (g,w),.chk c x⟩ :: os) ⟨T,H,lo,gen⟩ K=chkG A d (T g) w (clsOk c (x.addr A.glob T)) os T H lo gen K:=by
 rw[WO_cons]
 simp only[chkG]
 unfold evOper
 simp only[evOp]
 cases hT:T g with
 | bool b =>
  cases hb:(b==w) with
  | true =>
   refine propext ?_
   cases clsOk c (x.addr A.glob T) with
   | false=>simp[hb,bindW]
   | true=>simp[hb,bindW,genOf,AS.putD]
  | false=>simp[hb,bindW,AS.putD]
 | tuple l =>
  cases l with
  | nil=>simp[bindW,AS.putD]
  | cons a l=>simp[bindW]
 | _=>simp[bindW]
theorem r_ctt {p:Bool} : chkG A d (.bool true) true p os T H lo gen K=(p=true∧WO A d os ⟨T,H,lo,gen⟩ K):=by simp[chkG,bindW_some]
theorem r_cff {p:Bool} : chkG A d (.bool false) false p os T H lo gen K=(p=true∧WO A d os ⟨T,H,lo,gen⟩ K):=by simp[chkG,bindW_some]
theorem r_ctf {p:Bool} : chkG A d (.bool true) false p os T H lo gen K=WO A d os ⟨T,H,lo,gen⟩ K:=by simp[chkG,bindW_some]
theorem r_cft {p:Bool} : chkG A d (.bool false) true p os T H lo gen K=WO A d os ⟨T,H,lo,gen⟩ K:=by simp[chkG,bindW_some]
theorem r_cun {p w:Bool} : chkG A d (.tuple []) w p os T H lo gen K=WO A d os ⟨T,H,lo,gen⟩ K:=by simp[chkG,bindW_some]
theorem r_cany {b w:Bool} : chkG A d (.bool b) w true os T H lo gen K=WO A d os ⟨T,H,lo,gen⟩ K:=by simp[chkG,bindW_some]
theorem r_boxL {x:IArg} : WO A false (⟨some t,none,.boxL x⟩ :: os) ⟨T,H,lo,gen⟩ K=boxLK A (x.eval A.glob T) t os T H lo gen K:=by
 rw[state_op rfl]
 simp only[evOp,boxLK]
 cases (x.eval A.glob T).drop.cells with
 | none=>simp[bindW]
 | some cs=>simp only[Option.map_some,bindW_some];rfl
theorem bl_agg {cs:List AV} : boxLK A (.agg cs) t os T H lo gen K=WO A false os ⟨T.put t (.lbox gen (cs.map AV.drop)),H,lo,gen+1⟩ K:=by
 simp only[boxLK,AV.drop,AV.cells];exact bindW_some
theorem r_callP {f:FuncId} {args:List IArg} : WO A d (⟨some t,none,.callP (.fn f) args⟩ :: os) ⟨T,H,lo,gen⟩ K=(argsOK A.glob T args=true∧callPK A d (callD A f (argsV A.glob T args) H) t os T H lo gen K):=by
 rw[WO_cons]
 simp only[evOper,evOp,IArg.eval,argsOK_eq,argsV_eq,callPK,List.nil_append,List.append_nil]
 refine propext ?_
 cases argsOK A.glob T args with
 | false=>simp[bindW]
 | true =>
  simp only[cond_true,true_and]
  cases callD A f (argsV A.glob T args) H with
  | none=>simp[bindW]
  | some r =>
   obtain⟨v,c⟩:=r
   cases c with
   | none=>simp only[Option.bind_some];cases (d&&(genOf v).isSome)<;>simp[bindW,AS.putD,AS.setT]
   | some c=>simp[bindW]
theorem r_retP {v:AV} : callPK A false (some (v,none)) t os T H lo gen K=WO A false os ⟨T.put t v,H,lo,gen⟩ K:=by
 simp[callPK,bindW_some]
theorem r_mkslO {sz:Nat} {z:List (List AV)} {ps:List (Nat × IArg)} : WO A false (⟨some t,none,.mksliceO sz z ps⟩ :: os) ⟨T,H,lo,gen⟩ K =
  bindW ((sliceParts sz z (elemsV A.glob T ps)).bind fun E=>cond (plainRows E) (some E) none) fun E=>WO A false os ⟨T.put t (.sref H.length 0 E.length sz),H++[.box freeTy E.flatten],cond (Nat.blt H.length lo) H.length lo,gen⟩ K:=by
 rw[state_op rfl]
 simp only[evOp,elemsV_eq]
 cases sliceParts sz z (elemsV A.glob T ps) with
 | none=>simp[bindW]
 | some E =>
  simp only[Option.bind_some]
  cases plainRows E with
  | false=>simp[bindW]
  | true=>simp only[cond_true,bindW_some];rfl
end
section
variable {b g o l n z:Nat} {e:List (List AV)} {own:Bool} {cs:List AV} {s:List UInt8}
theorem ck_fl {b' : Nat} : clsOk (.frame b) (.lref b' g o)=Nat.beq b b':=rfl
theorem ck_hr:clsOk .heap (.ref l o)=true:=rfl
theorem ck_he:clsOk .heap (.eptr cs)=true:=rfl
theorem ck_hs:clsOk .heap (.slice e own)=true:=rfl
theorem ck_hS:clsOk .heap (.sref l o n z)=true:=rfl
theorem ck_hm:clsOk .heap (.mref l)=true:=rfl
theorem ck_hn:clsOk .heap .nilptr=true:=rfl
theorem ck_hN:clsOk .heap .nilmap=true:=rfl
theorem ck_ht:clsOk .heap (.str s)=true:=rfl
theorem ck_ha:clsOk .heap (.agg cs)=true:=rfl
theorem ck_ie:clsOk .imm (.eptr cs)=true:=rfl
theorem ck_is:clsOk .imm (.slice e own)=true:=rfl
end
def callTK (A:AP) (f:FuncId) (pre post:List AV) (i:Nat) (v:AV) (t:Nat) (os:List IOper) (T:AFrame) (H:AHeap) (lo gen:Nat) (K:AS→Prop):Prop:=match v with
 | .slice e own=>callK A false (callD A f (pre++.slice e own :: post) H) t os (T.put i (.slice e false)) H lo gen K
 | _=>False
section
variable {A:AP} {T:AFrame} {H:AHeap} {lo gen:Nat} {K:AS→Prop} {os:List IOper} {t:Nat}
theorem r_callT {f:FuncId} {pre post:List IArg} {i:Nat} : WO A false (⟨some t,none,.callT f pre (.tmp i) post⟩ :: os) ⟨T,H,lo,gen⟩ K =
  (argsOK A.glob T pre=true∧argsOK A.glob T post=true∧callTK A f (argsV A.glob T pre) (argsV A.glob T post) i (T i) t os T H lo gen K):=by
 rw[WO_cons]
 simp only[evOper,evOp,argsOK_eq,argsV_eq,giveX]
 refine propext ?_
 cases argsOK A.glob T pre with
 | false=>simp[bindW]
 | true =>
  cases argsOK A.glob T post with
  | false=>simp[bindW]
  | true =>
   simp only[Bool.and_self,cond_true,true_and,callTK]
   cases hT:T i with
   | slice e own =>
    simp only[Option.bind_some,callK]
    cases callD A f (argsV A.glob T pre++.slice e own :: argsV A.glob T post) H with
    | none=>simp[bindW]
    | some r =>
     obtain⟨v,c⟩:=r
     cases c<;>simp[bindW,AS.putD,AS.setT]
   | _=>simp[bindW]
theorem r_callTc {f:FuncId} {pre post:List IArg} : WO A false (⟨some t,none,.callT f pre (.con (.slice [] true)) post⟩ :: os) ⟨T,H,lo,gen⟩ K =
  (argsOK A.glob T pre=true∧argsOK A.glob T post=true∧callK A false (callD A f (argsV A.glob T pre++.slice [] true :: argsV A.glob T post) H) t os T H lo gen K):=by
 rw[WO_cons]
 simp only[evOper,evOp,argsOK_eq,argsV_eq,giveX]
 refine propext ?_
 cases argsOK A.glob T pre with
 | false=>simp[bindW]
 | true =>
  cases argsOK A.glob T post with
  | false=>simp[bindW]
  | true =>
   simp only[Bool.and_self,cond_true,true_and,Option.bind_some,callK]
   cases callD A f (argsV A.glob T pre++.slice [] true :: argsV A.glob T post) H with
   | none=>simp[bindW]
   | some r =>
    obtain⟨v,c⟩:=r
    cases c<;>simp[bindW,AS.putD,AS.setT]
theorem ct_slice {f:FuncId} {pre post:List AV} {i:Nat} {e:List (List AV)} {own:Bool} : callTK A f pre post i (.slice e own) t os T H lo gen K=callK A false (callD A f (pre++.slice e own :: post) H) t os (T.put i (.slice e false)) H lo gen K:=rfl
end
def appLK (A:AP) (sz bytes i:Nat) (v y:AV) (t:Nat) (os:List IOper) (T:AFrame) (H:AHeap) (lo gen:Nat) (K:AS→Prop):Prop:=match v with
 | .nilsl=>bindW ((elemsOf sz y).bind fun f=>cond (fitsRows sz bytes [] f) (some f) none) fun f=>WO A false os ⟨(T.put i .any).put t (.lsl gen f),H,lo,gen+1⟩ K
 | .slice e own=>bindW ((elemsOf sz y).bind fun f=>cond (e.isEmpty&&own&&fitsRows sz bytes [] f) (some f) none) fun f=>WO A false os ⟨(T.put i .any).put t (.lsl gen f),H,lo,gen+1⟩ K
 | .lsl _ e=>bindW ((elemsOf sz y).bind fun f=>cond (fitsRows sz bytes e f) (some (e++f)) none) fun f=>WO A false os ⟨(T.put i .any).put t (.lsl gen f),H,lo,gen+1⟩ K
 | _=>False
section
variable {A:AP} {T:AFrame} {H:AHeap} {lo gen:Nat} {K:AS→Prop} {os:List IOper} {t:Nat}
theorem r_appL {b:Bool} {sz bytes i:Nat} {y:IArg} : WO A false (⟨some t,none,.append b true sz bytes (.tmp i) y⟩ :: os) ⟨T,H,lo,gen⟩ K=appLK A sz bytes i (T i) (y.eval A.glob T) t os T H lo gen K:=by
 rw[WO_cons]
 simp only[evOper,evOp,evAppend,appLK]
 cases hT:T i with
 | nilsl =>
  simp only[cond_true]
  cases elemsOf sz (y.eval A.glob T) with
  | none=>simp[bindW]
  | some f=>simp only[Option.bind_some];cases fitsRows sz bytes [] f<;>simp[bindW,AS.putD,AS.setT]
 | lsl g e =>
  simp only[Bool.true_and]
  cases elemsOf sz (y.eval A.glob T) with
  | none=>simp[bindW]
  | some f=>simp only[Option.bind_some];cases fitsRows sz bytes e f<;>simp[bindW,AS.putD,AS.setT]
 | slice e own =>
  simp only[cond_true]
  cases elemsOf sz (y.eval A.glob T) with
  | none=>simp[bindW]
  | some f=>simp only[Option.bind_some];cases (e.isEmpty&&own&&fitsRows sz bytes [] f)<;>simp[bindW,AS.putD,AS.setT]
 | _=>simp[bindW]
theorem ap_nil {sz bytes i:Nat} {e:List (List AV)} {own:Bool} : appLK A sz bytes i .nilsl (.slice e own) t os T H lo gen K=bindW (cond (fitsRows sz bytes [] e) (some e) none) fun f=>WO A false os ⟨(T.put i .any).put t (.lsl gen f),H,lo,gen+1⟩ K:=rfl
theorem ap_sl {sz bytes i:Nat} {e f:List (List AV)} {o own:Bool} : appLK A sz bytes i (.slice e o) (.slice f own) t os T H lo gen K=bindW (cond (e.isEmpty&&o&&fitsRows sz bytes [] f) (some f) none) fun f=>WO A false os ⟨(T.put i .any).put t (.lsl gen f),H,lo,gen+1⟩ K:=rfl
theorem ap_lsl {sz bytes i g:Nat} {e f:List (List AV)} {own:Bool} : appLK A sz bytes i (.lsl g e) (.slice f own) t os T H lo gen K=bindW (cond (fitsRows sz bytes e f) (some (e++f)) none) fun f=>WO A false os ⟨(T.put i .any).put t (.lsl gen f),H,lo,gen+1⟩ K:=rfl
end
section
variable {A:AP} {T:AFrame} {H:AHeap} {lo gen:Nat} {K:AS→Prop} {d:Bool} {os:List IOper} {t:Nat}
theorem so_nilsl:stepO A d (some AV.nilsl) t os T H lo gen K=WO A d os ⟨T.put t AV.nilsl,H,lo,gen⟩ K:=stepO_some rfl
theorem mk_nilsl {take obj:Bool} {i:Nat} : movK A d take obj i AV.nilsl t os T H lo gen K=WO A d os ⟨T.put t AV.nilsl,H,lo,gen⟩ K:=bindW_some
theorem addrV_nilsl {s:Nat} : addrV s AV.nilsl=.nilsl:=rfl
theorem genOf_nilsl:genOf AV.nilsl=none:=rfl
theorem lenV_nilsl {T:AFrame} : lenV T .sl .nilsl=some (.int .i64 0):=rfl
theorem cellOut_nilsl {base:Nat} : AV.cellOut base .nilsl=AV.plain .nilsl:=rfl
theorem partOut_nilsl {base:Nat} : AV.partOut base .nilsl=AV.cellOut base .nilsl:=rfl
end
def ICode.pre:Nat→ICode→ICode
 | 0,.seq a _=>a
 | n+1,.seq a b=>.seq a (ICode.pre n b)
 | _,c=>c
def ICode.post:Nat→ICode→ICode
 | 0,.seq _ b=>b
 | n+1,.seq _ b=>ICode.post n b
 | _,_=>.skip
theorem W_cutN {A:AP} (n:Nat) {c:ICode} {s:AS} {Q:IExit→AS→Prop} (R:AS→Prop) (h1:W A (c.pre n) s (andThen R Q)) (h2:∀ s',R s'→W A (c.post n) s' Q):W A c s Q:=by
 induction n generalizing c s with
 | zero =>
  cases c with
  | seq a b=>exact W_cut R h1 h2
  | _ =>
   refine W_mono h1 (fun e s' h=>?_)
   cases e with
   | normal =>
    have:=h2 s' h
    obtain⟨n,e,s'',h3,h4⟩:=this
    simp only[ICode.post,evC,Option.some.injEq,Prod.mk.injEq] at h3
    obtain⟨rfl,rfl⟩:=h3
    exact h4
   | _=>exact h
 | succ n ih =>
  cases c with
  | seq a b =>
   simp only[ICode.pre,W_seq] at h1 ⊢
   refine W_mono h1 (fun e s' h=>?_)
   cases e with
   | normal=>exact ih h h2
   | _=>exact h
  | _ =>
   refine W_mono h1 (fun e s' h=>?_)
   cases e with
   | normal =>
    have:=h2 s' h
    obtain⟨n,e,s'',h3,h4⟩:=this
    simp only[ICode.post,evC,Option.some.injEq,Prod.mk.injEq] at h3
    obtain⟨rfl,rfl⟩:=h3
    exact h4
   | _=>exact h
def encNil:Option (List (List AV))→AV
 | none=>.nilsl
 | some e=>.slice e false
section
variable {o:Option (List (List AV))} {base:Nat} {A:AP} {T:AFrame} {H:AHeap} {lo gen:Nat} {K:AS→Prop} {d:Bool} {os:List IOper} {t:Nat}
theorem drop_encNil:(encNil o).drop=encNil o:=by cases o<;>rfl
theorem dropAll_encNil:(encNil o).dropAll=encNil o:=by cases o<;>rfl
theorem cells_encNil:(encNil o).cells=some [encNil o]:=by cases o<;>rfl
theorem plain_encNil:(encNil o).plain=true:=by cases o<;>rfl
theorem fc_encNil:frameCell (encNil o)=true:=by cases o<;>rfl
theorem genOf_encNil:genOf (encNil o)=none:=by cases o<;>rfl
theorem cellOut_encNil:AV.cellOut base (encNil o)=true:=by cases o<;>rfl
theorem partOut_encNil:AV.partOut base (encNil o)=true:=by cases o<;>rfl
theorem leaves_encNil:AV.leaves base (encNil o)=true:=by cases o<;>rfl
theorem nbA_encNil:nbA (encNil o)=true:=by cases o<;>rfl
theorem hc_encNil:heapCell base (encNil o)=true:=by cases o<;>rfl
theorem addrV_encNil:addrV base (encNil o)=encNil o:=by cases o<;>rfl
theorem so_encNil:stepO A d (some (encNil o)) t os T H lo gen K=WO A d os ⟨T.put t (encNil o),H,lo,gen⟩ K:=stepO_some genOf_encNil
theorem mk_encNil {take obj:Bool} {i:Nat} : movK A d take obj i (encNil o) t os T H lo gen K=WO A d os ⟨T.put t (encNil o),H,lo,gen⟩ K:=by
 cases o with
 | none=>exact mk_nilsl
 | some e=>exact mk_slf
theorem nbA_nilsl:nbA AV.nilsl=true:=rfl
theorem hc_nilsl:heapCell base AV.nilsl=true:=rfl
theorem leaves_nilsl:AV.leaves base AV.nilsl=true:=rfl
end
end Go.Abs
end
section
set_option linter.unusedVariables false
set_option linter.unusedSimpArgs false
namespace Go.Proofs.YtemfofdaemgjgaaGreatDoor
open Go Go.Abs Go.Proofs Go.Shelf RowKit
section
variable {G:Nat→List AV} {base:Nat} {gh:Gh} {w w' : World} {H:AHeap}
theorem ret_fresh (hW:WRel G base H gh w) (hb:Below w.heap.size w w') {S' : Nat→Nat→Prop} (hnew:∀ b o,S' b o→w.heap.size≤b∧b<w'.heap.size) (hbyte:∀ b o m,S' b o→w'.cell? ⟨b,o,none⟩≠some (.int .u8 m))
  {v:Value} {r:AV} (hv:VR { gh with S:=fun b o=>gh.S b o∨S' b o } H.length w' v r):RetOK G base H gh w r none v { gh with S:=fun b o=>gh.S b o∨S' b o } w':=by
 have st0:=step_below hW hb H.length
 have st:Step (fun _=>False) H.length gh w { gh with S:=fun b o=>gh.S b o∨S' b o } w':=by
  refine⟨fun b o h=>.inl h,st0.cell,st0.size,st0.os,st0.tape,st0.output,fun b hlt hn=>?_,st0.fresh,st0.ρ,st0.len,st0.mp⟩
  obtain⟨h1,h2,h3⟩:=st0.blk b hlt hn
  exact⟨h1,h2,fun o ho=>ho.elim id (fun h=>absurd (hnew b o h).1 (by omega))⟩
 refine⟨Nat.le_refl _,hW.step st (fun l=>⟨id,fun _=>id⟩) (fun b o h=>?_) (fun b h=>⟨(hW.kLt b h).1,Nat.lt_of_lt_of_le (hW.kLt b h).2 hb.size⟩) (fun b o m h=>?_),st.mono (fun _ h=>h.elim),fun _ h=>h,.inl hv⟩
 ·rcases h with h|h
  ·exact Nat.lt_of_lt_of_le (hW.sLt b o h) hb.size
  ·exact (hnew b o h).2
 ·rcases h with h|h
  ·exact .inl h
  ·exact .inr fun hc=>absurd hc (hbyte b o m h)
theorem ints_of:∀ {e:List (List AV)} {xs:List Int},intsOf e=some xs→e=ints xs
 | [],xs,h=>by simp only[intsOf,Option.some.injEq] at h;subst h;rfl
 | r :: e,xs,h=>by
  unfold intsOf at h
  split at h
  ·cases ‹r :: e=[]›
  ·rename_i n e' heq
   injection heq with h1 h2
   subst h1 h2
   simp only[Option.map_eq_some_iff] at h
   obtain⟨ys,hy,rfl⟩:=h
   rw[ints_of hy];rfl
  ·cases h
theorem clone_sound:OvSound Tryz.prog G 27 ovClone:=by
 intro args H r c he
 refine⟨fnOK 27 _ Tryz.func27 (by kernel_rfl) (by decide),?_⟩
 unfold ovClone at he
 split at he
 ·rename_i e
  simp only[Option.bind_eq_some_iff] at he
  obtain⟨xs,hxs,he⟩:=he
  obtain⟨h0,he⟩:=cond_some he
  simp only[Option.some.injEq,Prod.mk.injEq] at he
  obtain⟨rfl,rfl⟩:=he
  simp only[Nat.ble_eq] at h0
  refine⟨chg_none,fun base gh w vs hW _ hs hrel=>?_⟩
  obtain⟨v,rfl,hv⟩:=args1 hs hrel
  have hp:=hv.inv_slice
  obtain rfl:=ints_of hxs
  generalize hE:ints xs=E at hp
  cases hp with
  | sliceNil =>
   refine (Any.slices_Clone_int_nil layClone 0 0 w).mono ?_
   rintro e w' ⟨rfl,rfl⟩
   exact⟨_,gh,rfl,ret_below hW (Below.refl _ _) (.plain _ _ .sliceNil)⟩
  | slice b o n cap sz e f hn hcap hrow hcell hrelc =>
   subst hE
   rw[ints_len] at hn
   subst hn
   have cell:∀ j,j<xs.length→w.cell? ⟨b,o+j,none⟩=some (.int .i64 (xs.getD j 0)):=by
    intro j hj
    have hx:=List.getElem?_eq_getElem hj
    have hr:=ints_at hx
    have h1:=hrow j _ hr
    simp at h1
    subst h1
    obtain⟨_,k2,_⟩:=hcell j 0 _ _ hr rfl
    have k3:=hrelc j 0 _ _ hr rfl
    have:f j 0=.int .i64 xs[j]:=by
     generalize f j 0=u at k3
     cases k3;rfl
    rw[this,Nat.mul_one,Nat.add_zero] at k2
    rw[k2];simp[List.getD,hx]
   refine (Any.slices_Clone_int layClone b o xs.length cap xs w (Nat.le_refl _) (by omega) cell).mono ?_
   rintro e w' ⟨v',rfl,⟨hlen,hown⟩,hne,hb⟩
   rcases hown with ⟨h1,_⟩|⟨g,cap',cur,rfl,hg,hh,hnc,_,hsz,htake⟩
   ·exact absurd h1 hne
   ·rw[List.take_length] at htake
    have hcur:∀ j,j<xs.length→cur[j]?=some (.int .i64 (xs.getD j 0)):=by
     intro j hj
     have h1:(cur.toList.take (xs.length*1))[j]?=(xs.map (Value.int .i64))[j]?:=by rw[htake]
     rw[List.getElem?_take,if_pos (by omega),Array.getElem?_toList] at h1
     rw[h1];simp[List.getD,List.getElem?_eq_getElem hj]
    have hlt:g<w'.heap.size:=(Array.getElem?_eq_some_iff.1 hh).1
    refine⟨_,_,rfl,ret_fresh hW hb (S':=fun b o=>b=g∧o<xs.length) (fun b o h=>by obtain⟨rfl,_⟩:=h;exact⟨hg,hlt⟩) (fun b o m h=>?_) (.plain _ _ (.slice g 0 xs.length cap' 1 _ (fun i _=>.int .i64 (xs.getD i 0)) ints_len hnc (fun i r hi=>?_) (fun i j r x hi hj=>?_) (fun i j r x hi hj=>?_)))⟩
    ·obtain⟨rfl,ho⟩:=h
     rw[cell_of_row w' b o cur _ _ hh,hcur o ho]
     intro h;injection h with h;injection h with h _;cases h
    ·rw[ints_get,Option.map_eq_some_iff] at hi
     obtain⟨n,_,rfl⟩:=hi;rfl
    ·have hil:=(List.getElem?_eq_some_iff.1 hi).1
     rw[ints_len] at hil
     rw[ints_get,Option.map_eq_some_iff] at hi
     obtain⟨n,_,rfl⟩:=hi
     have hj0:j=0:=by have:=(List.getElem?_eq_some_iff.1 hj).1;simp at this;exact this
     subst hj0
     refine⟨.inr ⟨rfl,by omega⟩,?_,rfl⟩
     rw[cell_of_row w' g _ cur _ _ hh,Nat.zero_add,Nat.mul_one,Nat.add_zero]
     exact hcur i hil
    ·rw[ints_get,Option.map_eq_some_iff] at hi
     obtain⟨n,hn,rfl⟩:=hi
     have hj0:j=0:=by have:=(List.getElem?_eq_some_iff.1 hj).1;simp at this;exact this
     subst hj0
     simp at hj
     subst hj
     have:xs.getD i 0=n:=by simp[List.getD,hn]
     rw[this]
     exact .int _ _
 ·cases he
end
end Go.Proofs.YtemfofdaemgjgaaGreatDoor
end
section
set_option maxRecDepth 100000
namespace Go.Proofs.YtemfofdaemgjgaaGreatDoor
open Go Go.Abs Go.Proofs
theorem fns_ok (f:FuncId) (ifn:IFunc) (h:fns f=some ifn):∃ fn takes locals muts,Tryz.prog.funcs[f]?=some fn∧compF Tryz.prog takes locals muts fn=some ifn:=by
 unfold fns at h
 split at h
 ·injection h with h;subst h;exact⟨_,_,_,_,Tryz.func3,ir3_ok⟩
 ·injection h with h;subst h;exact⟨_,_,_,_,Tryz.func4,ir4_ok⟩
 ·injection h with h;subst h;exact⟨_,_,_,_,Tryz.func5,ir5_ok⟩
 ·injection h with h;subst h;exact⟨_,_,_,_,Tryz.func6,ir6_ok⟩
 ·injection h with h;subst h;exact⟨_,_,_,_,Tryz.func7,ir7_ok⟩
 ·injection h with h;subst h;exact⟨_,_,_,_,Tryz.func8,ir8_ok⟩
 ·injection h with h;subst h;exact⟨_,_,_,_,Tryz.func9,ir9_ok⟩
 ·injection h with h;subst h;exact⟨_,_,_,_,Tryz.func10,ir10_ok⟩
 ·injection h with h;subst h;exact⟨_,_,_,_,Tryz.func11,ir11_ok⟩
 ·injection h with h;subst h;exact⟨_,_,_,_,Tryz.func12,ir12_ok⟩
 ·injection h with h;subst h;exact⟨_,_,_,_,Tryz.func13,ir13_ok⟩
 ·injection h with h;subst h;exact⟨_,_,_,_,Tryz.func14,ir14_ok⟩
 ·injection h with h;subst h;exact⟨_,_,_,_,Tryz.func15,ir15_ok⟩
 ·injection h with h;subst h;exact⟨_,_,_,_,Tryz.func16,ir16_ok⟩
 ·injection h with h;subst h;exact⟨_,_,_,_,Tryz.func17,ir17_ok⟩
 ·injection h with h;subst h;exact⟨_,_,_,_,Tryz.func18,ir18_ok⟩
 ·injection h with h;subst h;exact⟨_,_,_,_,Tryz.func19,ir19_ok⟩
 ·injection h with h;subst h;exact⟨_,_,_,_,Tryz.func20,ir20_ok⟩
 ·injection h with h;subst h;exact⟨_,_,_,_,Tryz.func21,ir21_ok⟩
 ·injection h with h;subst h;exact⟨_,_,_,_,Tryz.func22,ir22_ok⟩
 ·injection h with h;subst h;exact⟨_,_,_,_,Tryz.func23,ir23_ok⟩
 ·injection h with h;subst h;exact⟨_,_,_,_,Tryz.func24,ir24_ok⟩
 ·injection h with h;subst h;exact⟨_,_,_,_,Tryz.func25,ir25_ok⟩
 ·injection h with h;subst h;exact⟨_,_,_,_,Tryz.func26,ir26_ok⟩
 ·injection h with h;subst h;exact⟨_,_,_,_,Tryz.func28,ir28_ok⟩
 ·injection h with h;subst h;exact⟨_,_,_,_,Tryz.func29,ir29_ok⟩
 ·injection h with h;subst h;exact⟨_,_,_,_,Tryz.func31,ir31_ok⟩
 ·injection h with h;subst h;exact⟨_,_,_,_,Tryz.func32,ir32_ok⟩
 ·injection h with h;subst h;exact⟨_,_,_,_,Tryz.func33,ir33_ok⟩
 ·injection h with h;subst h;exact⟨_,_,_,_,Tryz.func34,ir34_ok⟩
 ·injection h with h;subst h;exact⟨_,_,_,_,Tryz.func35,ir35_ok⟩
 ·injection h with h;subst h;exact⟨_,_,_,_,Tryz.func36,ir36_ok⟩
 ·injection h with h;subst h;exact⟨_,_,_,_,Tryz.func37,ir37_ok⟩
 ·injection h with h;subst h;exact⟨_,_,_,_,Tryz.func38,ir38_ok⟩
 ·injection h with h;subst h;exact⟨_,_,_,_,Tryz.func39,ir39_ok⟩
 ·injection h with h;subst h;exact⟨_,_,_,_,Tryz.func40,ir40_ok⟩
 ·injection h with h;subst h;exact⟨_,_,_,_,Tryz.func41,ir41_ok⟩
 ·injection h with h;subst h;exact⟨_,_,_,_,Tryz.func42,ir42_ok⟩
 ·injection h with h;subst h;exact⟨_,_,_,_,Tryz.func43,ir43_ok⟩
 ·injection h with h;subst h;exact⟨_,_,_,_,Tryz.func44,ir44_ok⟩
 ·injection h with h;subst h;exact⟨_,_,_,_,Tryz.func45,ir45_ok⟩
 ·injection h with h;subst h;exact⟨_,_,_,_,Tryz.func46,ir46_ok⟩
 ·injection h with h;subst h;exact⟨_,_,_,_,Tryz.func47,ir47_ok⟩
 ·injection h with h;subst h;exact⟨_,_,_,_,Tryz.func48,ir48_ok⟩
 ·injection h with h;subst h;exact⟨_,_,_,_,Tryz.func49,ir49_ok⟩
 ·injection h with h;subst h;exact⟨_,_,_,_,Tryz.func50,ir50_ok⟩
 ·injection h with h;subst h;exact⟨_,_,_,_,Tryz.func51,ir51_ok⟩
 ·injection h with h;subst h;exact⟨_,_,_,_,Tryz.func52,ir52_ok⟩
 ·injection h with h;subst h;exact⟨_,_,_,_,Tryz.func53,ir53_ok⟩
 ·injection h with h;subst h;exact⟨_,_,_,_,Tryz.func54,ir54_ok⟩
 ·injection h with h;subst h;exact⟨_,_,_,_,Tryz.func55,ir55_ok⟩
 ·injection h with h;subst h;exact⟨_,_,_,_,Tryz.func56,ir56_ok⟩
 ·injection h with h;subst h;exact⟨_,_,_,_,Tryz.func57,ir57_ok⟩
 ·injection h with h;subst h;exact⟨_,_,_,_,Tryz.func58,ir58_ok⟩
 ·injection h with h;subst h;exact⟨_,_,_,_,Tryz.func59,ir59_ok⟩
 ·injection h with h;subst h;exact⟨_,_,_,_,Tryz.func62,ir62_ok⟩
 ·injection h with h;subst h;exact⟨_,_,_,_,Tryz.func63,ir63_ok⟩
 ·injection h with h;subst h;exact⟨_,_,_,_,Tryz.func64,ir64_ok⟩
 ·injection h with h;subst h;exact⟨_,_,_,_,Tryz.func65,ir65_ok⟩
 ·injection h with h;subst h;exact⟨_,_,_,_,Tryz.func66,ir66_ok⟩
 ·injection h with h;subst h;exact⟨_,_,_,_,Tryz.func67,ir67_ok⟩
 ·injection h with h;subst h;exact⟨_,_,_,_,Tryz.func68,ir68_ok⟩
 ·injection h with h;subst h;exact⟨_,_,_,_,Tryz.func69,ir69_ok⟩
 ·injection h with h;subst h;exact⟨_,_,_,_,Tryz.func70,ir70_ok⟩
 ·injection h with h;subst h;exact⟨_,_,_,_,Tryz.func71,ir71_ok⟩
 ·injection h with h;subst h;exact⟨_,_,_,_,Tryz.func72,ir72_ok⟩
 ·injection h with h;subst h;exact⟨_,_,_,_,Tryz.func73,ir73_ok⟩
 ·injection h with h;subst h;exact⟨_,_,_,_,Tryz.func74,ir74_ok⟩
 ·injection h with h;subst h;exact⟨_,_,_,_,Tryz.func75,ir75_ok⟩
 ·injection h with h;subst h;exact⟨_,_,_,_,Tryz.func76,ir76_ok⟩
 ·injection h with h;subst h;exact⟨_,_,_,_,Tryz.func77,ir77_ok⟩
 ·injection h with h;subst h;exact⟨_,_,_,_,Tryz.func80,ir80_ok⟩
 ·injection h with h;subst h;exact⟨_,_,_,_,Tryz.func82,ir82_ok⟩
 ·injection h with h;subst h;exact⟨_,_,_,_,Tryz.func83,ir83_ok⟩
 ·injection h with h;subst h;exact⟨_,_,_,_,Tryz.func84,ir84_ok⟩
 ·injection h with h;subst h;exact⟨_,_,_,_,Tryz.func89,ir89_ok⟩
 ·injection h with h;subst h;exact⟨_,_,_,_,Tryz.func90,ir90_ok⟩
 ·injection h with h;subst h;exact⟨_,_,_,_,Tryz.func135,ir135_ok⟩
 ·injection h with h;subst h;exact⟨_,_,_,_,Tryz.func136,ir136_ok⟩
 ·cases h
theorem ov_ok (f:FuncId) (g:List AV→AHeap→Option (AV × Option Chg)) (h:ov f=some g):OvSound Tryz.prog tab f g:=by
 unfold ov at h
 split at h
 ·injection h with h;subst h;exact clone_sound
 ·injection h with h;subst h;exact enough_sound
 ·injection h with h;subst h;exact itoa_sound
 ·injection h with h;subst h;exact string_sound
 ·injection h with h;subst h;exact copy_sound
 ·injection h with h;subst h;exact index_sound
 ·injection h with h;subst h;exact atoi_sound
 ·cases h
theorem progOK:ProgOK Tryz.prog A:=⟨by kernel_rfl,fns_ok,ov_ok⟩
end Go.Proofs.YtemfofdaemgjgaaGreatDoor
end
section
set_option linter.defProp false
namespace Go.Proofs.YtemfofdaemgjgaaGreatDoor
open Go Go.Abs Go.Proofs
set_option maxRecDepth 100000
def evA:=And.intro (And.intro (And.intro (And.intro (And.intro (And.intro (And.intro (And.intro (And.intro (@x_seq) (@x_block))
 (And.intro (@x_cond) (@x_region)))
 (And.intro (And.intro (@x_skip) (@x_ret))
 (And.intro (@x_exit)
 (And.intro (@x_nil) (@x_setT)))))
 (And.intro (And.intro (And.intro (@x_chg) (@x_normal))
 (And.intro (@x_aret)
 (And.intro (@x_aexit) (@x_lnormal))))
 (And.intro (And.intro (@x_lret) (@x_lexit'))
 (And.intro (@x_loc)
 (And.intro (@x_locg) (@x_exexit))))))
 (And.intro (And.intro (And.intro (And.intro (@x_exret) (@x_dret))
 (And.intro (@x_dpret) (@x_dpnormal)))
 (And.intro (And.intro (@x_dnormal) (@bindW_some))
 (And.intro (@condW_true)
 (And.intro (@condW_false) (@put_get)))))
 (And.intro (And.intro (And.intro (@initT_zero) (@initT_succ))
 (And.intro (@Option.bind_some.{0,0})
 (And.intro (@Option.bind_none.{0,0}) (@Option.map_some.{0,0}))))
 (And.intro (And.intro (@Option.map_none.{0,0}) (@beq_self))
 (And.intro (@beq_self_eq_true.{0})
 (And.intro (@Bool.and_false) (@Bool.false_and)))))))
 (And.intro (And.intro (And.intro (And.intro (And.intro (@Bool.true_and) (@Bool.and_true))
 (And.intro (@Bool.or_true) (@Bool.true_or)))
 (And.intro (And.intro (@Bool.or_false) (@Bool.false_or))
 (And.intro (@Bool.not_true)
 (And.intro (@Bool.not_false) (@decide_true)))))
 (And.intro (And.intro (And.intro (@decide_false) (@List.map_cons.{0,0}))
 (And.intro (@List.map_nil.{0,0})
 (And.intro (@List.all_cons.{0}) (@List.all_nil.{0}))))
 (And.intro (And.intro (@List.length_cons.{0}) (@List.length_nil.{0}))
 (And.intro (@List.getElem?_cons_zero.{0})
 (And.intro (@List.getElem?_cons_succ.{0}) (@List.nil_append.{0}))))))
 (And.intro (And.intro (And.intro (And.intro (@List.append_nil.{0}) (@List.cons_append.{0}))
 (And.intro (@wrap64) (@asNat_nat)))
 (And.intro (And.intro (@asNat_lit) (@asNat_add))
 (And.intro (@Option.some.injEq.{0})
 (And.intro (@Prod.mk.injEq.{0,0}) (@Nat.zero_add)))))
 (And.intro (And.intro (And.intro (@List.drop_zero.{0}) (@ble_dec))
 (And.intro (@blt_dec)
 (And.intro (@dle) (@dlt))))
 (And.intro (And.intro (@List.take_succ_cons.{0}) (@List.take_zero.{0}))
 (And.intro (@List.drop_succ_cons.{0})
 (And.intro (@Int.natCast_add) (@Int.cast_ofNat_Int))))))))
 (And.intro (And.intro (And.intro (And.intro (And.intro (And.intro (@List.set_cons_zero.{0}) (@List.set_cons_succ.{0}))
 (And.intro (@app_nil) (@app_ints)))
 (And.intro (And.intro (@app_int) (@app_int0))
 (And.intro (@app_cons)
 (And.intro (@app_ints0) (@app_strs)))))
 (And.intro (And.intro (And.intro (@app_str) (@app_str0))
 (And.intro (@ints_nb)
 (And.intro (@strs_nb) (@beq_tf))))
 (And.intro (And.intro (@nbeq_f) (@nbeq_t))
 (And.intro (@chunks_strs)
 (And.intro (@take_strs) (@List.length_map.{0,0}))))))
 (And.intro (And.intro (And.intro (And.intro (@beq_ft) (@ge_iff_le.{0}))
 (And.intro (@gt_iff_lt.{0}) (@AV.int.injEq)))
 (And.intro (And.intro (@AV.str.injEq) (@AV.bool.injEq))
 (And.intro (@AV.slice.injEq)
 (And.intro (@true_and) (@and_true)))))
 (And.intro (And.intro (And.intro (@and_self) (@drop_bool))
 (And.intro (@drop_int)
 (And.intro (@drop_str) (@drop_any))))
 (And.intro (And.intro (@drop_nilptr) (@drop_nilmap))
 (And.intro (@drop_nilfunc)
 (And.intro (@drop_niliface) (@drop_slice)))))))
 (And.intro (And.intro (And.intro (And.intro (And.intro (@drop_eptr) (@drop_ref))
 (And.intro (@drop_lbox) (@drop_lref)))
 (And.intro (And.intro (@drop_lsl) (@drop_lsr))
 (And.intro (@drop_eref)
 (And.intro (@drop_func) (@drop_iface)))))
 (And.intro (And.intro (And.intro (@drop_agg) (@drop_tuple))
 (And.intro (@dropAll_bool)
 (And.intro (@dropAll_int) (@dropAll_str))))
 (And.intro (And.intro (@dropAll_any) (@dropAll_nilptr))
 (And.intro (@dropAll_nilmap)
 (And.intro (@dropAll_nilfunc) (@dropAll_niliface))))))
 (And.intro (And.intro (And.intro (And.intro (@dropAll_slice) (@dropAll_eptr))
 (And.intro (@dropAll_ref) (@dropAll_lbox)))
 (And.intro (And.intro (@dropAll_lref) (@dropAll_lsl))
 (And.intro (@dropAll_lsr)
 (And.intro (@dropAll_eref) (@dropAll_func)))))
 (And.intro (And.intro (And.intro (@dropAll_iface) (@dropAll_agg))
 (And.intro (@dropAll_tuple)
 (And.intro (@fc_bool) (@fc_int))))
 (And.intro (And.intro (@fc_str) (@fc_any))
 (And.intro (@fc_nilptr)
 (And.intro (@fc_nilmap) (@fc_nilfunc)))))))))
 (And.intro (And.intro (And.intro (And.intro (And.intro (And.intro (And.intro (@fc_niliface) (@fc_slice))
 (And.intro (@fc_eptr) (@fc_ref)))
 (And.intro (And.intro (@fc_lbox) (@fc_lref))
 (And.intro (@fc_lsl)
 (And.intro (@fc_lsr) (@fc_eref)))))
 (And.intro (And.intro (And.intro (@fc_func) (@fc_iface))
 (And.intro (@fc_agg)
 (And.intro (@fc_tuple) (@genOf_bool))))
 (And.intro (And.intro (@genOf_int) (@genOf_str))
 (And.intro (@genOf_any)
 (And.intro (@genOf_nilptr) (@genOf_nilmap))))))
 (And.intro (And.intro (And.intro (And.intro (@genOf_nilfunc) (@genOf_niliface))
 (And.intro (@genOf_slice) (@genOf_eptr)))
 (And.intro (And.intro (@genOf_ref) (@genOf_lbox))
 (And.intro (@genOf_lref)
 (And.intro (@genOf_lsl) (@genOf_lsr)))))
 (And.intro (And.intro (And.intro (@genOf_eref) (@genOf_func))
 (And.intro (@genOf_iface)
 (And.intro (@genOf_agg) (@genOf_tuple))))
 (And.intro (And.intro (@cells_bool) (@cells_int))
 (And.intro (@cells_str)
 (And.intro (@cells_any) (@cells_nilptr)))))))
 (And.intro (And.intro (And.intro (And.intro (And.intro (@cells_nilmap) (@cells_nilfunc))
 (And.intro (@cells_niliface) (@cells_slice)))
 (And.intro (And.intro (@cells_eptr) (@cells_ref))
 (And.intro (@cells_lbox)
 (And.intro (@cells_lref) (@cells_lsl)))))
 (And.intro (And.intro (And.intro (@cells_lsr) (@cells_eref))
 (And.intro (@cells_func)
 (And.intro (@cells_iface) (@cells_agg))))
 (And.intro (And.intro (@cells_tuple) (@plain_bool))
 (And.intro (@plain_int)
 (And.intro (@plain_str) (@plain_any))))))
 (And.intro (And.intro (And.intro (And.intro (@plain_nilptr) (@plain_nilmap))
 (And.intro (@plain_nilfunc) (@plain_niliface)))
 (And.intro (And.intro (@plain_slice) (@plain_eptr))
 (And.intro (@plain_ref)
 (And.intro (@plain_lbox) (@plain_lref)))))
 (And.intro (And.intro (And.intro (@plain_lsl) (@plain_lsr))
 (And.intro (@plain_eref)
 (And.intro (@plain_agg) (@plain_tuple))))
 (And.intro (And.intro (@cellOut_bool) (@cellOut_int))
 (And.intro (@cellOut_str)
 (And.intro (@cellOut_any) (@cellOut_nilptr))))))))
 (And.intro (And.intro (And.intro (And.intro (And.intro (And.intro (@cellOut_nilmap) (@cellOut_nilfunc))
 (And.intro (@cellOut_niliface) (@cellOut_slice)))
 (And.intro (And.intro (@cellOut_eptr) (@cellOut_ref))
 (And.intro (@cellOut_lbox)
 (And.intro (@cellOut_lref) (@cellOut_lsl)))))
 (And.intro (And.intro (And.intro (@cellOut_lsr) (@cellOut_eref))
 (And.intro (@cellOut_func)
 (And.intro (@cellOut_iface) (@cellOut_agg))))
 (And.intro (And.intro (@cellOut_tuple) (@partOut_bool))
 (And.intro (@partOut_int)
 (And.intro (@partOut_str) (@partOut_any))))))
 (And.intro (And.intro (And.intro (And.intro (@partOut_nilptr) (@partOut_nilmap))
 (And.intro (@partOut_nilfunc) (@partOut_niliface)))
 (And.intro (And.intro (@partOut_slice) (@partOut_eptr))
 (And.intro (@partOut_ref)
 (And.intro (@partOut_lbox) (@partOut_lref)))))
 (And.intro (And.intro (And.intro (@partOut_lsl) (@partOut_lsr))
 (And.intro (@partOut_eref)
 (And.intro (@partOut_func) (@partOut_iface))))
 (And.intro (And.intro (@partOut_agg) (@partOut_tuple))
 (And.intro (@leaves_bool)
 (And.intro (@leaves_int) (@leaves_str)))))))
 (And.intro (And.intro (And.intro (And.intro (And.intro (@leaves_any) (@leaves_nilptr))
 (And.intro (@leaves_nilmap) (@leaves_nilfunc)))
 (And.intro (And.intro (@leaves_niliface) (@leaves_slice))
 (And.intro (@leaves_eptr)
 (And.intro (@leaves_ref) (@leaves_lbox)))))
 (And.intro (And.intro (And.intro (@leaves_lref) (@leaves_lsl))
 (And.intro (@leaves_lsr)
 (And.intro (@leaves_eref) (@leaves_func))))
 (And.intro (And.intro (@leaves_iface) (@leaves_agg))
 (And.intro (@leaves_tuple)
 (And.intro (@addrV_bool) (@addrV_int))))))
 (And.intro (And.intro (And.intro (And.intro (@addrV_str) (@addrV_any))
 (And.intro (@addrV_nilptr)
 (And.intro (@addrV_nilmap) (@addrV_nilfunc))))
 (And.intro (And.intro (@addrV_niliface) (@addrV_slice))
 (And.intro (@addrV_eptr)
 (And.intro (@addrV_ref) (@addrV_lbox)))))
 (And.intro (And.intro (And.intro (@addrV_lref) (@addrV_lsl))
 (And.intro (@addrV_lsr)
 (And.intro (@addrV_eref) (@addrV_func))))
 (And.intro (And.intro (@addrV_iface) (@addrV_agg))
 (And.intro (@addrV_tuple)
 (And.intro (@so_bool) (@so_int))))))))))
 (And.intro (And.intro (And.intro (And.intro (And.intro (And.intro (And.intro (And.intro (@so_str) (@so_any))
 (And.intro (@so_nilptr) (@so_nilmap)))
 (And.intro (And.intro (@so_nilfunc) (@so_niliface))
 (And.intro (@so_slice)
 (And.intro (@so_eptr) (@so_ref)))))
 (And.intro (And.intro (And.intro (@so_lref) (@so_lsr))
 (And.intro (@so_eref)
 (And.intro (@so_func) (@so_iface))))
 (And.intro (And.intro (@so_agg) (@so_tuple))
 (And.intro (@mk_bool)
 (And.intro (@mk_int) (@mk_str))))))
 (And.intro (And.intro (And.intro (And.intro (@mk_any) (@mk_nilptr))
 (And.intro (@mk_nilmap) (@mk_nilfunc)))
 (And.intro (And.intro (@mk_niliface) (@mk_eptr))
 (And.intro (@mk_ref)
 (And.intro (@mk_lbox) (@mk_lref)))))
 (And.intro (And.intro (And.intro (@mk_lsr) (@mk_eref))
 (And.intro (@mk_func)
 (And.intro (@mk_iface) (@mk_agg))))
 (And.intro (And.intro (@mk_tuple) (@rv_bool))
 (And.intro (@rv_int)
 (And.intro (@rv_str) (@rv_any)))))))
 (And.intro (And.intro (And.intro (And.intro (And.intro (@rv_nilptr) (@rv_nilmap))
 (And.intro (@rv_nilfunc) (@rv_niliface)))
 (And.intro (And.intro (@rv_slice) (@rv_eptr))
 (And.intro (@rv_ref)
 (And.intro (@rv_lsl) (@rv_func)))))
 (And.intro (And.intro (And.intro (@rv_iface) (@rv_agg))
 (And.intro (@rv_tuple)
 (And.intro (@r_addr) (@mk_slf))))
 (And.intro (And.intro (@mk_slt) (@mk_sl0))
 (And.intro (@mk_lsl0)
 (And.intro (@mk_lslt) (@r_mov))))))
 (And.intro (And.intro (And.intro (And.intro (@r_movc) (@r_movg))
 (And.intro (@r_movf) (@r_guard)))
 (And.intro (And.intro (@r_gtt) (@r_gff))
 (And.intro (@r_gtf)
 (And.intro (@r_gft) (@r_gun)))))
 (And.intro (And.intro (And.intro (@r_pick) (@r_pickt))
 (And.intro (@r_pickf)
 (And.intro (@r_allocL) (@r_allocH))))
 (And.intro (And.intro (@r_build) (@r_mkslice))
 (And.intro (@r_mk)
 (And.intro (@r_load0) (@r_loadX))))))))
 (And.intro (And.intro (And.intro (And.intro (And.intro (And.intro (@r_lslC) (@r_rowC))
 (And.intro (@r_loadE) (@r_loadR)))
 (And.intro (And.intro (@r_boxC) (@r_loadL))
 (And.intro (@r_lboxC)
 (And.intro (@r_cellsA) (@r_cells1)))))
 (And.intro (And.intro (And.intro (@r_bin) (@r_un))
 (And.intro (@r_conv)
 (And.intro (@r_iface) (@r_slice))))
 (And.intro (And.intro (@r_bii) (@r_bss))
 (And.intro (@r_bbb)
 (And.intro (@r_fieldAddr) (@r_faE))))))
 (And.intro (And.intro (And.intro (And.intro (@r_faR) (@r_faL))
 (And.intro (@r_lboxLive) (@r_faX)))
 (And.intro (And.intro (@r_lslLive) (@r_ixArr))
 (And.intro (@r_field)
 (And.intro (@r_fieldA) (@r_ixSl)))))
 (And.intro (And.intro (And.intro (@r_ixS) (@r_ixL))
 (And.intro (@r_rowV)
 (And.intro (@r_index) (@r_indexA))))
 (And.intro (And.intro (@r_indexStr) (@r_byteV))
 (And.intro (@r_byteAt)
 (And.intro (@r_extract) (@r_extrT)))))))
 (And.intro (And.intro (And.intro (And.intro (And.intro (@r_len) (@r_lenS))
 (And.intro (@r_lenE) (@r_lenL)))
 (And.intro (And.intro (@r_call) (@r_calln))
 (And.intro (@r_callv)
 (And.intro (@r_callF) (@r_ret)))))
 (And.intro (And.intro (And.intro (@r_retd) (@r_retc))
 (And.intro (@r_retn)
 (And.intro (@r_retnc) (@r_append))))
 (And.intro (And.intro (@r_appK) (@r_appc))
 (And.intro (@r_store)
 (And.intro (@r_loadT) (@r_boxK))))))
 (And.intro (And.intro (And.intro (And.intro (@r_nilCheck) (@r_mkfunc))
 (And.intro (@r_addrc) (@r_addrg)))
 (And.intro (And.intro (@r_addrf) (@r_spn))
 (And.intro (@r_spc)
 (And.intro (@r_spk) (@r_elemA)))))
 (And.intro (And.intro (And.intro (@r_elemI) (@r_elemS))
 (And.intro (@r_elemB)
 (And.intro (@r_elemL) (@r_bpn))))
 (And.intro (And.intro (@r_bpc) (@r_bpk))
 (And.intro (@r_rows)
 (And.intro (@r_nb) (@r_nb0)))))))))
 (And.intro (And.intro (And.intro (And.intro (And.intro (And.intro (And.intro (@r_nbc) (@r_nbr0))
 (And.intro (@r_nbrc) (@r_nbi)))
 (And.intro (And.intro (@r_nbs) (@r_nbb))
 (And.intro (@r_nbl)
 (And.intro (@r_nbg) (@r_fin)))))
 (And.intro (And.intro (And.intro (@r_finv) (@r_res1))
 (And.intro (@r_reslsr)
 (And.intro (@r_lslRes) (@r_res1c))))
 (And.intro (And.intro (@r_res0) (@r_res2))
 (And.intro (@r_resn)
 (And.intro (@r_ress) (@r_consO))))))
 (And.intro (And.intro (And.intro (And.intro (@r_rest) (@r_resc))
 (And.intro (@r_rescl) (@r_rescr)))
 (And.intro (And.intro (@drop_sref) (@dropAll_sref))
 (And.intro (@fc_sref)
 (And.intro (@genOf_sref) (@cells_sref)))))
 (And.intro (And.intro (And.intro (@plain_sref) (@cellOut_sref))
 (And.intro (@partOut_sref)
 (And.intro (@leaves_sref) (@addrV_sref))))
 (And.intro (And.intro (@so_sref) (@mk_sref))
 (And.intro (@rv_sref)
 (And.intro (@r_ixR) (@r_lenR)))))))
 (And.intro (And.intro (And.intro (And.intro (And.intro (@r_resB) (@drop_fmap))
 (And.intro (@drop_mref) (@dropAll_fmap)))
 (And.intro (And.intro (@dropAll_mref) (@fc_fmap))
 (And.intro (@fc_mref)
 (And.intro (@genOf_fmap) (@genOf_mref)))))
 (And.intro (And.intro (And.intro (@cells_fmap) (@cells_mref))
 (And.intro (@plain_fmap)
 (And.intro (@plain_mref) (@cellOut_fmap))))
 (And.intro (And.intro (@cellOut_mref) (@partOut_fmap))
 (And.intro (@partOut_mref)
 (And.intro (@leaves_fmap) (@leaves_mref))))))
 (And.intro (And.intro (And.intro (And.intro (@addrV_fmap) (@addrV_mref))
 (And.intro (@so_fmap) (@so_mref)))
 (And.intro (And.intro (@mk_fmap) (@mk_mref))
 (And.intro (@rv_fmap)
 (And.intro (@rv_mref) (@r_mm)))))
 (And.intro (And.intro (And.intro (@r_mmI) (@r_appO))
 (And.intro (@r_mkarr)
 (And.intro (@r_mkmap) (@r_look))))
 (And.intro (And.intro (@r_mlen) (@r_mset))
 (And.intro (@hp_app)
 (And.intro (@hp_len) (@hp_get))))))))
 (And.intro (And.intro (And.intro (And.intro (And.intro (And.intro (@hp_get0) (@hp_set))
 (And.intro (@hp_set0) (@hp_take)))
 (And.intro (And.intro (@hp_lt) (@hp_lt0))
 (And.intro (@bx_agg)
 (And.intro (@bx_int) (@hc_int)))))
 (And.intro (And.intro (And.intro (@hc_bool) (@hc_str))
 (And.intro (@hc_slice)
 (And.intro (@hc_sref) (@hc_ref))))
 (And.intro (And.intro (@hc_nil) (@r_chk))
 (And.intro (@r_chkg)
 (And.intro (@r_ctt) (@r_cff))))))
 (And.intro (And.intro (And.intro (And.intro (@r_ctf) (@r_cft))
 (And.intro (@r_cun) (@r_cany)))
 (And.intro (And.intro (@r_boxL) (@bl_agg))
 (And.intro (@r_callP)
 (And.intro (@r_retP) (@r_mkslO)))))
 (And.intro (And.intro (And.intro (@ck_fl) (@ck_hr))
 (And.intro (@ck_he)
 (And.intro (@ck_hs) (@ck_hS))))
 (And.intro (And.intro (@ck_hm) (@ck_hn))
 (And.intro (@ck_hN)
 (And.intro (@ck_ht) (@ck_ha)))))))
 (And.intro (And.intro (And.intro (And.intro (And.intro (@ck_ie) (@ck_is))
 (And.intro (@drop_nilsl) (@dropAll_nilsl)))
 (And.intro (And.intro (@cells_nilsl) (@plain_nilsl))
 (And.intro (@fc_nilsl)
 (And.intro (@r_appN) (@r_callT)))))
 (And.intro (And.intro (And.intro (@r_callTc) (@ct_slice))
 (And.intro (@r_appL)
 (And.intro (@ap_nil) (@ap_lsl))))
 (And.intro (And.intro (@so_nilsl) (@mk_nilsl))
 (And.intro (@addrV_nilsl)
 (And.intro (@genOf_nilsl) (@lenV_nilsl))))))
 (And.intro (And.intro (And.intro (And.intro (@cellOut_nilsl) (@partOut_nilsl))
 (And.intro (@ap_sl)
 (And.intro (@drop_encNil) (@dropAll_encNil))))
 (And.intro (And.intro (@cells_encNil) (@plain_encNil))
 (And.intro (@fc_encNil)
 (And.intro (@genOf_encNil) (@cellOut_encNil)))))
 (And.intro (And.intro (And.intro (@partOut_encNil) (@leaves_encNil))
 (And.intro (@nbA_encNil)
 (And.intro (@hc_encNil) (@addrV_encNil))))
 (And.intro (And.intro (@so_encNil) (@mk_encNil))
 (And.intro (@nbA_nilsl)
 (And.intro (@hc_nilsl) (@leaves_nilsl))))))))))
theorem spent_c {s:AS} {v:AV} : s.spent (.con v)=s:=rfl
theorem spent_g {s:AS} {v:Nat} : s.spent (.glob v)=s:=rfl
theorem spent_f {s:AS} {v:FuncId} : s.spent (.fn v)=s:=rfl
theorem isCon_t {v:Nat} : isCon (.tmp v)=false:=rfl
theorem isCon_g {v:Nat} : isCon (.glob v)=false:=rfl
theorem isCon_f {v:FuncId} : isCon (.fn v)=false:=rfl
set_option linter.defProp false in
def evB:=And.intro evA (And.intro (And.intro (And.intro (And.intro (And.intro (And.intro (And.intro (@spent_c)
 (@spent_g))
 (And.intro (@spent_f)
 (@isCon_t)))
 (And.intro (And.intro (@isCon_g)
 (@isCon_f))
 (And.intro (@argsV.eq_1)
 (@argsV.eq_2))))
 (And.intro (And.intro (And.intro (@argsOK.eq_1)
 (@argsOK.eq_2))
 (And.intro (@partsV.eq_1)
 (@partsV.eq_2)))
 (And.intro (And.intro (@elemsV.eq_1)
 (@elemsV.eq_2))
 (And.intro (@optV.eq_1)
 (@optV.eq_2)))))
 (And.intro (And.intro (And.intro (And.intro (@evOper.eq_1)
 (@evOp.eq_1))
 (And.intro (@evOp.eq_2)
 (@evOp.eq_3)))
 (And.intro (And.intro (@evOp.eq_4)
 (@evOp.eq_5))
 (And.intro (@evOp.eq_6)
 (@evOp.eq_7))))
 (And.intro (And.intro (And.intro (@evOp.eq_8)
 (@evOp.eq_9))
 (And.intro (@evOp.eq_10)
 (@evOp.eq_11)))
 (And.intro (And.intro (@evOp.eq_12)
 (@evOp.eq_13))
 (And.intro (@evOp.eq_14)
 (And.intro (@evOp.eq_15)
 (@evOp.eq_16)))))))
 (And.intro (And.intro (And.intro (And.intro (And.intro (@evOp.eq_17)
 (@evOp.eq_18))
 (And.intro (@evOp.eq_19)
 (@evOp.eq_20)))
 (And.intro (And.intro (@evOp.eq_21)
 (@evOp.eq_22))
 (And.intro (@evOp.eq_23)
 (@evOp.eq_24))))
 (And.intro (And.intro (And.intro (@evOp.eq_25)
 (@evOp.eq_26))
 (And.intro (@evOp.eq_27)
 (@evOp.eq_28)))
 (And.intro (And.intro (@evOp.eq_29)
 (@evOp.eq_30))
 (And.intro (@evOp.eq_31)
 (And.intro (@evOp.eq_32)
 (@evOp.eq_33))))))
 (And.intro (And.intro (And.intro (And.intro (@evOp.eq_34)
 (@evOp.eq_35))
 (And.intro (@evOp.eq_36)
 (@evOp.eq_37)))
 (And.intro (And.intro (@evOp.eq_38)
 (@evOp.eq_39))
 (And.intro (@evOp.eq_40)
 (@evOp.eq_41))))
 (And.intro (And.intro (And.intro (@evOp.eq_42)
 (@evOp.eq_43))
 (And.intro (@evAppend.eq_1)
 (@evAppend.eq_2)))
 (And.intro (And.intro (@IArg.eval.eq_1)
 (@IArg.eval.eq_2))
 (And.intro (@IArg.eval.eq_3)
 (And.intro (@IArg.eval.eq_4)
 (@AS.putD.eq_1))))))))
 (And.intro (And.intro (And.intro (And.intro (And.intro (And.intro (@AS.putD.eq_2)
 (@Option.isSome.eq_1.{0}))
 (And.intro (@Option.isSome.eq_2.{0})
 (@Option.isNone.eq_1.{0})))
 (And.intro (And.intro (@Option.isNone.eq_2.{0})
 (@cond_true.{1}))
 (And.intro (@cond_false.{1})
 (@binInt.eq_1))))
 (And.intro (And.intro (And.intro (@binInt.eq_2)
 (@binInt.eq_3))
 (And.intro (@binInt.eq_4)
 (@binInt.eq_5)))
 (And.intro (And.intro (@binInt.eq_6)
 (@binInt.eq_7))
 (And.intro (@binInt.eq_8)
 (@binInt.eq_9)))))
 (And.intro (And.intro (And.intro (And.intro (@binInt.eq_10)
 (@binInt.eq_11))
 (And.intro (@binInt.eq_12)
 (@binStr.eq_1)))
 (And.intro (And.intro (@binStr.eq_2)
 (@binStr.eq_3))
 (And.intro (@binStr.eq_4)
 (@binStr.eq_5))))
 (And.intro (And.intro (And.intro (@binStr.eq_6)
 (@binStr.eq_7))
 (And.intro (@binStr.eq_8)
 (@unAV.eq_1)))
 (And.intro (And.intro (@unAV.eq_2)
 (@unAV.eq_3))
 (And.intro (@lenAV.eq_1)
 (And.intro (@lenAV.eq_2)
 (@lenAV.eq_3)))))))
 (And.intro (And.intro (And.intro (And.intro (And.intro (@lenAV.eq_4)
 (@lenAV.eq_5))
 (And.intro (@lenAV.eq_6)
 (@convAV.eq_1)))
 (And.intro (And.intro (@convAV.eq_2)
 (@convAV.eq_3))
 (And.intro (@convAV.eq_4)
 (@sliceAV.eq_1))))
 (And.intro (And.intro (And.intro (@sliceAV.eq_2)
 (@sliceAV.eq_3))
 (And.intro (@sliceAV.eq_4)
 (@bound.eq_1)))
 (And.intro (And.intro (@bound.eq_2)
 (@isCon.eq_1))
 (And.intro (@isCon.eq_2)
 (And.intro (@AS.spent.eq_1)
 (@AS.spent.eq_2))))))
 (And.intro (And.intro (And.intro (And.intro (@liveAddr.eq_1)
 (@liveAddr.eq_2))
 (And.intro (@liveAddr.eq_3)
 (@liveAddr.eq_4)))
 (And.intro (And.intro (@liveAddr.eq_5)
 (@offAddr.eq_1))
 (And.intro (@offAddr.eq_2)
 (@offAddr.eq_3))))
 (And.intro (And.intro (And.intro (@offAddr.eq_4)
 (@offAddr.eq_5))
 (And.intro (@elemsOf.eq_1)
 (@elemsOf.eq_2)))
 (And.intro (And.intro (@elemsOf.eq_3)
 (@nilCmp.eq_1))
 (And.intro (@nilCmp.eq_2)
 (And.intro (@nilCmp.eq_3)
 (@putAt.eq_1)))))))))
set_option linter.defProp false in
def evO:=And.intro evB (And.intro (And.intro (And.intro (@ilt_t)
 (@ilt_f))
 (And.intro (@ile_t)
 (@ile_f)))
 (And.intro (And.intro (@ieq_t)
 (@ieq_f))
 (And.intro (@ine_t)
 (@ine_f))))
end Go.Proofs.YtemfofdaemgjgaaGreatDoor
end
