/-
  A part of the proof of PrintKept: AbsEq, AbsEvK, K1, AbsOKK.
-/
import Derived.IntWalk
import Derived.Test.YtaedakihpnghjaaGreatDoorP16
set_option linter.unusedSimpArgs false
set_option linter.unusedVariables false
section
namespace Go.Abs
set_option linter.unusedSimpArgs false
set_option linter.unusedVariables false
open Go
abbrev I64 (n:Int):Prop:=-9223372036854775808≤n∧n≤9223372036854775807
theorem wrap64 {n:Int} (h:-9223372036854775808≤n∧n≤9223372036854775807):IntKind.i64.wrap n=n:=by
 exact IntWalk.i64_in _ h
theorem asNat_nat {k:IntKind} {n:Nat} : asNat (.int k n)=some n:=by simp[asNat]
theorem asNat_lit {k:IntKind} {n:Nat} : asNat (.int k (no_index (@OfNat.ofNat Int n instOfNat)))=some n:=by
 show asNat (.int k ((n:Nat):Int))=some n
 exact asNat_nat
theorem asNat_add {k:IntKind} {a n:Nat} : asNat (.int k ((a:Int)+no_index (@OfNat.ofNat Int n instOfNat)))=some (a+n):=by
 show asNat (.int k ((a:Int)+((n:Nat):Int)))=some (a+n)
 rw[← Int.natCast_add];exact asNat_nat
theorem asNat_of {k:IntKind} {n:Int} (h:0≤n):asNat (.int k n)=some n.toNat:=by simp[asNat,h]
theorem ble_dec {a b:Nat} : Nat.ble a b=decide (a≤b):=by
 cases h:Nat.ble a b with
 | true=>simp[Nat.le_of_ble_eq_true h]
 | false=>simp[show ¬ a≤b from fun e=>by rw[Nat.ble_eq_true_of_le e] at h;cases h]
theorem blt_dec {a b:Nat} : Nat.blt a b=decide (a<b):=by
 show Nat.ble (a+1) b=_
 rw[ble_dec];rfl
theorem dle {a b:Nat} (h:a≤b):decide (a≤b)=true:=by simp[h]
theorem dlt {a b:Nat} (h:a<b):decide (a<b)=true:=by simp[h]
theorem ilt_t {a b:Int} (h:a<b):decide (a<b)=true:=by simp[h]
theorem ilt_f {a b:Int} (h:b≤a):decide (a<b)=false:=by simp;omega
theorem ile_t {a b:Int} (h:a≤b):decide (a≤b)=true:=by simp[h]
theorem ile_f {a b:Int} (h:b<a):decide (a≤b)=false:=by simp;omega
theorem ieq_t {a b:Int} (h:a=b):(a==b)=true:=by simp[h]
theorem ieq_f {a b:Int} (h:a≠b):(a==b)=false:=by simp[h]
theorem ine_t {a b:Int} (h:a≠b):(a != b)=true:=by simp[h]
theorem ine_f {a b:Int} (h:a=b):(a != b)=false:=by simp[h]
theorem nbeq_f {a b:Nat} (h:a≠b):Nat.beq a b=false:=by
 cases hb:Nat.beq a b with
 | false=>rfl
 | true=>exact absurd (Nat.eq_of_beq_eq_true hb) h
theorem nbeq_t {a b:Nat} (h:a=b):Nat.beq a b=true:=by rw[h];exact Nat.beq_refl b
theorem beq_tf:(true==false)=false:=rfl
theorem beq_ft:(false==true)=false:=rfl
def ints (l:List Int):List (List AV):=l.map fun n=>[.int .i64 n]
def strs (l:List (List UInt8)):List (List AV):=l.map fun n=>[.str n]
theorem ints_len {l:List Int} : (ints l).length=l.length:=by simp[ints]
theorem strs_len {l:List (List UInt8)} : (strs l).length=l.length:=by simp[strs]
theorem strs_at {l:List (List UInt8)} {i:Nat} {n:List UInt8} (h:l[i]?=some n):(strs l)[i]?=some [.str n]:=by simp[strs,h]
theorem chunks_strs:∀ {l:List (List UInt8)} {n:Nat},n=l.length→chunks 1 n (l.map .str)=strs l
 | [],0,_=>rfl
 | a :: l,n+1,h=>by
  simp only[List.map_cons,chunks,strs,List.take_succ_cons,List.take_zero,List.drop_succ_cons,List.drop_zero]
  rw[chunks_strs (by simpa using h)];rfl
theorem take_strs {l:List (List UInt8)} {n:Nat} (h:l.length≤n):(strs l).take n=strs l:=List.take_of_length_le (by rw[strs_len];exact h)
theorem ints_rows {l:List Int} : RowsB 1 (ints l):=⟨fun r hr=>by simp only[ints,List.mem_map] at hr;obtain⟨n,_,rfl⟩:=hr;rfl,nb_all fun r hr=>by simp only[ints,List.mem_map] at hr;obtain⟨n,_,rfl⟩:=hr;rfl⟩
theorem strs_rows {l:List (List UInt8)} : RowsB 1 (strs l):=⟨fun r hr=>by simp only[strs,List.mem_map] at hr;obtain⟨n,_,rfl⟩:=hr;rfl,nb_all fun r hr=>by simp only[strs,List.mem_map] at hr;obtain⟨n,_,rfl⟩:=hr;rfl⟩
theorem strs_nil:strs []=[]:=rfl
theorem ints_nb {l:List Int} : nb (ints l)=true:=ints_rows.2
theorem strs_nb {l:List (List UInt8)} : nb (strs l)=true:=strs_rows.2
theorem ints_append {l m:List Int} : ints l++ints m=ints (l++m):=by simp[ints]
theorem strs_append {l m:List (List UInt8)} : strs l++strs m=strs (l++m):=by simp[strs]
theorem app_ints {l m:List Int} {o:Bool} (h:l.length+m.length≤1099511627776):appendAV false 1 8 (.slice (ints l) true) (.slice (ints m) o)=some (.slice (ints (l++m)) true):=by
 rw[app_ok ints_rows ints_rows (by rw[ints_len,ints_len];omega) (by rw[ints_len,ints_len];omega),ints_append]
theorem app_int {l:List Int} {n:Int} {o:Bool} (h:l.length≤1099511627775):appendAV false 1 8 (.slice (ints l) true) (.slice [[.int .i64 n]] o)=some (.slice (ints (l++[n])) true):=app_ints (m:=[n]) (by simp;omega)
theorem app_cons {m:List Int} {n:Int} {o:Bool} (h:m.length≤1099511627775):appendAV false 1 8 (.slice [[.int .i64 n]] true) (.slice (ints m) o)=some (.slice (ints (n :: m)) true):=app_ints (l:=[n]) (m:=m) (by simp;omega)
theorem app_int0 {n:Int} {o:Bool} : appendAV false 1 8 (.slice [] true) (.slice [[.int .i64 n]] o)=some (.slice (ints [n]) true):=app_ints (l:=[]) (m:=[n]) (by simp)
theorem app_ints0 {m:List Int} {o:Bool} (h:m.length≤1099511627776):appendAV false 1 8 (.slice [] true) (.slice (ints m) o)=some (.slice (ints m) true):=app_ints (l:=[]) (by simpa using h)
theorem app_strs {l m:List (List UInt8)} {o:Bool} (h:l.length+m.length≤1099511627776):appendAV false 1 16 (.slice (strs l) true) (.slice (strs m) o)=some (.slice (strs (l++m)) true):=by
 rw[app_ok strs_rows strs_rows (by rw[strs_len,strs_len];omega) (by rw[strs_len,strs_len];omega),strs_append]
theorem app_str {l:List (List UInt8)} {n:List UInt8} {o:Bool} (h:l.length≤1099511627775):appendAV false 1 16 (.slice (strs l) true) (.slice [[.str n]] o)=some (.slice (strs (l++[n])) true):=app_strs (m:=[n]) (by simp;omega)
theorem app_str0 {n:List UInt8} {o:Bool} : appendAV false 1 16 (.slice [] true) (.slice [[.str n]] o)=some (.slice (strs [n]) true):=app_strs (l:=[]) (m:=[n]) (by simp)
theorem hp_app {H l m:AHeap} : H++l++m=H++(l++m):=List.append_assoc ..
theorem hp_len {H l:AHeap} : List.length (H++l)=H.length+l.length:=List.length_append
theorem hp_get {H l:AHeap} {k:Nat} : (H++l)[H.length+k]?=l[k]?:=by rw[List.getElem?_append_right (by omega)];simp
theorem hp_get0 {H l:AHeap} : (H++l)[H.length]?=l[0]?:=hp_get (k:=0)
theorem hp_set {H l:AHeap} {k:Nat} {x:AObj} : (H++l).set (H.length+k) x=H++l.set k x:=by rw[List.set_append_right _ _ (by omega)];simp
theorem hp_set0 {H l:AHeap} {x:AObj} : (H++l).set H.length x=H++l.set 0 x:=hp_set (k:=0)
theorem hp_take {H l:AHeap} : (H++l).take H.length=H:=by simp
theorem hp_lt {n k:Nat} : decide (n+k<n)=false:=by simp
theorem hp_lt0 {n:Nat} : decide (n<n)=false:=by simp
def boxK (A:AP) (ty:TypeId) (v:AV) (t:Nat) (os:List IOper) (T:AFrame) (H:AHeap) (lo gen:Nat) (K:AS→Prop):Prop :=
 bindW (v.drop.cells.bind fun cs=>cond (cs.all (heapCell H.length)) (some (cs.map AV.drop)) none) fun cs=>WO A false os ⟨T.put t (.ref H.length 0),H++[.box ty cs],cond (Nat.blt H.length lo) H.length lo,gen⟩ K
section
variable {A:AP} {T:AFrame} {H:AHeap} {lo gen:Nat} {K:AS→Prop} {d:Bool} {os:List IOper} {t:Nat}
theorem r_boxK {ty:TypeId} {x:IArg} : WO A false (⟨some t,none,.box ty x⟩ :: os) ⟨T,H,lo,gen⟩ K=boxK A ty (x.eval A.glob T) t os T H lo gen K:=by
 rw[state_op rfl]
 simp only[evOp,boxK]
 cases (x.eval A.glob T).drop.cells with
 | none=>simp[bindW]
 | some cs =>
  simp only[Option.bind_some]
  cases cs.all (heapCell H.length) with
  | false=>simp[bindW]
  | true=>simp only[cond_true,bindW_some];rfl
theorem bx_agg {ty:TypeId} {cs:List AV} : boxK A ty (.agg cs) t os T H lo gen K=bindW (cond (cs.all (heapCell H.length)) (some (cs.map AV.drop)) none) fun cs=>WO A false os ⟨T.put t (.ref H.length 0),H++[.box ty cs],cond (Nat.blt H.length lo) H.length lo,gen⟩ K:=rfl
theorem bx_int {ty:TypeId} {k:IntKind} {n:Int} : boxK A ty (.int k n) t os T H lo gen K=WO A false os ⟨T.put t (.ref H.length 0),H++[.box ty [.int k n]],cond (Nat.blt H.length lo) H.length lo,gen⟩ K:=by
 simp only[boxK,AV.drop,AV.cells,Option.bind_some];exact bindW_some
end
theorem hc_int {n:Nat} {k:IntKind} {m:Int} : heapCell n (.int k m)=true:=rfl
theorem hc_bool {n:Nat} {b:Bool} : heapCell n (.bool b)=true:=rfl
theorem hc_str {n:Nat} {s:List UInt8} : heapCell n (.str s)=true:=rfl
theorem hc_slice {n:Nat} {e:List (List AV)} {o:Bool} : heapCell n (.slice e o)=true:=rfl
theorem hc_sref {n l o k z:Nat} : heapCell n (.sref l o k z)=Nat.ble l n:=rfl
theorem hc_ref {n l o:Nat} : heapCell n (.ref l o)=Nat.ble l n:=rfl
theorem hc_nil {n:Nat} : heapCell n .nilptr=true:=rfl
def chkG (A:AP) (d:Bool) (v:AV) (w:Bool) (p:Bool) (os:List IOper) (T:AFrame) (H:AHeap) (lo gen:Nat) (K:AS→Prop):Prop :=
 bindW (match v with|.bool b=>some (b==w)|.tuple []=>some false|_=>none) fun b=>(b=true→p=true)∧WO A d os ⟨T,H,lo,gen⟩ K
def boxLK (A:AP) (v:AV) (t:Nat) (os:List IOper) (T:AFrame) (H:AHeap) (lo gen:Nat) (K:AS→Prop):Prop :=
 bindW v.drop.cells fun cs=>WO A false os ⟨T.put t (.lbox gen (cs.map AV.drop)),H,lo,gen+1⟩ K
def callPK (A:AP) (d:Bool) (r:Option (AV × Option Chg)) (t:Nat) (os:List IOper) (T:AFrame) (H:AHeap) (lo gen:Nat) (K:AS→Prop):Prop :=
 bindW (r.bind fun r=>match r.2 with
  | none=>cond (d&&(genOf r.1).isSome) none (some r.1)
  | some _=>none) fun v=>WO A d os ⟨T.put t v,H,lo,gen⟩ K
section
variable {A:AP} {T:AFrame} {H:AHeap} {lo gen:Nat} {K:AS→Prop} {d:Bool} {os:List IOper} {t:Nat}
theorem r_chk {c:Cls} {x:IArg} : WO A d (⟨none,none,.chk c x⟩ :: os) ⟨T,H,lo,gen⟩ K=(clsOk c (x.addr A.glob T)=true∧WO A d os ⟨T,H,lo,gen⟩ K):=by
 rw[WO_cons]
 simp only[evOper,evOp]
 refine propext ?_
 cases clsOk c (x.addr A.glob T) with
 | false=>simp[bindW]
 | true=>simp[bindW,genOf,AS.putD]
theorem r_chkg {g:Nat} {w:Bool} {c:Cls} {x:IArg} : WO A d (⟨none,some (g,w),.chk c x⟩ :: os) ⟨T,H,lo,gen⟩ K=chkG A d (T g) w (clsOk c (x.addr A.glob T)) os T H lo gen K:=by
 rw[WO_cons]
 simp only[chkG]
 unfold evOper
 simp only[evOp]
 cases hT:T g with
 | bool b =>
  cases hb:(b==w) with
  | true =>
   refine propext ?_
   cases clsOk c (x.addr A.glob T) with
   | false=>simp[hb,bindW]
   | true=>simp[hb,bindW,genOf,AS.putD]
  | false=>simp[hb,bindW,AS.putD]
 | tuple l =>
  cases l with
  | nil=>simp[bindW,AS.putD]
  | cons a l=>simp[bindW]
 | _=>simp[bindW]
theorem r_ctt {p:Bool} : chkG A d (.bool true) true p os T H lo gen K=(p=true∧WO A d os ⟨T,H,lo,gen⟩ K):=by simp[chkG,bindW_some]
theorem r_cff {p:Bool} : chkG A d (.bool false) false p os T H lo gen K=(p=true∧WO A d os ⟨T,H,lo,gen⟩ K):=by simp[chkG,bindW_some]
theorem r_ctf {p:Bool} : chkG A d (.bool true) false p os T H lo gen K=WO A d os ⟨T,H,lo,gen⟩ K:=by simp[chkG,bindW_some]
theorem r_cft {p:Bool} : chkG A d (.bool false) true p os T H lo gen K=WO A d os ⟨T,H,lo,gen⟩ K:=by simp[chkG,bindW_some]
theorem r_cun {p w:Bool} : chkG A d (.tuple []) w p os T H lo gen K=WO A d os ⟨T,H,lo,gen⟩ K:=by simp[chkG,bindW_some]
theorem r_cany {b w:Bool} : chkG A d (.bool b) w true os T H lo gen K=WO A d os ⟨T,H,lo,gen⟩ K:=by simp[chkG,bindW_some]
theorem r_boxL {x:IArg} : WO A false (⟨some t,none,.boxL x⟩ :: os) ⟨T,H,lo,gen⟩ K=boxLK A (x.eval A.glob T) t os T H lo gen K:=by
 rw[state_op rfl]
 simp only[evOp,boxLK]
 cases (x.eval A.glob T).drop.cells with
 | none=>simp[bindW]
 | some cs=>simp only[Option.map_some,bindW_some];rfl
theorem bl_agg {cs:List AV} : boxLK A (.agg cs) t os T H lo gen K=WO A false os ⟨T.put t (.lbox gen (cs.map AV.drop)),H,lo,gen+1⟩ K:=by
 simp only[boxLK,AV.drop,AV.cells];exact bindW_some
theorem r_callP {f:FuncId} {args:List IArg} : WO A d (⟨some t,none,.callP (.fn f) args⟩ :: os) ⟨T,H,lo,gen⟩ K=(argsOK A.glob T args=true∧callPK A d (callD A f (argsV A.glob T args) H) t os T H lo gen K):=by
 rw[WO_cons]
 simp only[evOper,evOp,IArg.eval,argsOK_eq,argsV_eq,callPK,List.nil_append,List.append_nil]
 refine propext ?_
 cases argsOK A.glob T args with
 | false=>simp[bindW]
 | true =>
  simp only[cond_true,true_and]
  cases callD A f (argsV A.glob T args) H with
  | none=>simp[bindW]
  | some r =>
   obtain⟨v,c⟩:=r
   cases c with
   | none=>simp only[Option.bind_some];cases (d&&(genOf v).isSome)<;>simp[bindW,AS.putD,AS.setT]
   | some c=>simp[bindW]
theorem r_retP {v:AV} : callPK A false (some (v,none)) t os T H lo gen K=WO A false os ⟨T.put t v,H,lo,gen⟩ K:=by
 simp[callPK,bindW_some]
theorem r_mkslO {sz:Nat} {z:List (List AV)} {ps:List (Nat × IArg)} : WO A false (⟨some t,none,.mksliceO sz z ps⟩ :: os) ⟨T,H,lo,gen⟩ K =
  bindW ((sliceParts sz z (elemsV A.glob T ps)).bind fun E=>cond (plainRows E) (some E) none) fun E=>WO A false os ⟨T.put t (.sref H.length 0 E.length sz),H++[.box freeTy E.flatten],cond (Nat.blt H.length lo) H.length lo,gen⟩ K:=by
 rw[state_op rfl]
 simp only[evOp,elemsV_eq]
 cases sliceParts sz z (elemsV A.glob T ps) with
 | none=>simp[bindW]
 | some E =>
  simp only[Option.bind_some]
  cases plainRows E with
  | false=>simp[bindW]
  | true=>simp only[cond_true,bindW_some];rfl
end
section
variable {b g o l n z:Nat} {e:List (List AV)} {own:Bool} {cs:List AV} {s:List UInt8}
theorem ck_fl {b' : Nat} : clsOk (.frame b) (.lref b' g o)=Nat.beq b b':=rfl
theorem ck_hr:clsOk .heap (.ref l o)=true:=rfl
theorem ck_he:clsOk .heap (.eptr cs)=true:=rfl
theorem ck_hs:clsOk .heap (.slice e own)=true:=rfl
theorem ck_hS:clsOk .heap (.sref l o n z)=true:=rfl
theorem ck_hm:clsOk .heap (.mref l)=true:=rfl
theorem ck_hn:clsOk .heap .nilptr=true:=rfl
theorem ck_hN:clsOk .heap .nilmap=true:=rfl
theorem ck_ht:clsOk .heap (.str s)=true:=rfl
theorem ck_ha:clsOk .heap (.agg cs)=true:=rfl
theorem ck_ie:clsOk .imm (.eptr cs)=true:=rfl
theorem ck_is:clsOk .imm (.slice e own)=true:=rfl
end
def callTK (A:AP) (f:FuncId) (pre post:List AV) (i:Nat) (v:AV) (t:Nat) (os:List IOper) (T:AFrame) (H:AHeap) (lo gen:Nat) (K:AS→Prop):Prop:=match v with
 | .slice e own=>callK A false (callD A f (pre++.slice e own :: post) H) t os (T.put i (.slice e false)) H lo gen K
 | _=>False
section
variable {A:AP} {T:AFrame} {H:AHeap} {lo gen:Nat} {K:AS→Prop} {os:List IOper} {t:Nat}
theorem r_callT {f:FuncId} {pre post:List IArg} {i:Nat} : WO A false (⟨some t,none,.callT f pre (.tmp i) post⟩ :: os) ⟨T,H,lo,gen⟩ K =
  (argsOK A.glob T pre=true∧argsOK A.glob T post=true∧callTK A f (argsV A.glob T pre) (argsV A.glob T post) i (T i) t os T H lo gen K):=by
 rw[WO_cons]
 simp only[evOper,evOp,argsOK_eq,argsV_eq,giveX]
 refine propext ?_
 cases argsOK A.glob T pre with
 | false=>simp[bindW]
 | true =>
  cases argsOK A.glob T post with
  | false=>simp[bindW]
  | true =>
   simp only[Bool.and_self,cond_true,true_and,callTK]
   cases hT:T i with
   | slice e own =>
    simp only[Option.bind_some,callK]
    cases callD A f (argsV A.glob T pre++.slice e own :: argsV A.glob T post) H with
    | none=>simp[bindW]
    | some r =>
     obtain⟨v,c⟩:=r
     cases c<;>simp[bindW,AS.putD,AS.setT]
   | _=>simp[bindW]
theorem r_callTc {f:FuncId} {pre post:List IArg} : WO A false (⟨some t,none,.callT f pre (.con (.slice [] true)) post⟩ :: os) ⟨T,H,lo,gen⟩ K =
  (argsOK A.glob T pre=true∧argsOK A.glob T post=true∧callK A false (callD A f (argsV A.glob T pre++.slice [] true :: argsV A.glob T post) H) t os T H lo gen K):=by
 rw[WO_cons]
 simp only[evOper,evOp,argsOK_eq,argsV_eq,giveX]
 refine propext ?_
 cases argsOK A.glob T pre with
 | false=>simp[bindW]
 | true =>
  cases argsOK A.glob T post with
  | false=>simp[bindW]
  | true =>
   simp only[Bool.and_self,cond_true,true_and,Option.bind_some,callK]
   cases callD A f (argsV A.glob T pre++.slice [] true :: argsV A.glob T post) H with
   | none=>simp[bindW]
   | some r =>
    obtain⟨v,c⟩:=r
    cases c<;>simp[bindW,AS.putD,AS.setT]
theorem ct_slice {f:FuncId} {pre post:List AV} {i:Nat} {e:List (List AV)} {own:Bool} : callTK A f pre post i (.slice e own) t os T H lo gen K=callK A false (callD A f (pre++.slice e own :: post) H) t os (T.put i (.slice e false)) H lo gen K:=rfl
end
def appLK (A:AP) (sz bytes i:Nat) (v y:AV) (t:Nat) (os:List IOper) (T:AFrame) (H:AHeap) (lo gen:Nat) (K:AS→Prop):Prop:=match v with
 | .nilsl=>bindW ((elemsOf sz y).bind fun f=>cond (fitsRows sz bytes [] f) (some f) none) fun f=>WO A false os ⟨(T.put i .any).put t (.lsl gen f),H,lo,gen+1⟩ K
 | .slice e own=>bindW ((elemsOf sz y).bind fun f=>cond (e.isEmpty&&own&&fitsRows sz bytes [] f) (some f) none) fun f=>WO A false os ⟨(T.put i .any).put t (.lsl gen f),H,lo,gen+1⟩ K
 | .lsl _ e=>bindW ((elemsOf sz y).bind fun f=>cond (fitsRows sz bytes e f) (some (e++f)) none) fun f=>WO A false os ⟨(T.put i .any).put t (.lsl gen f),H,lo,gen+1⟩ K
 | _=>False
section
variable {A:AP} {T:AFrame} {H:AHeap} {lo gen:Nat} {K:AS→Prop} {os:List IOper} {t:Nat}
theorem r_appL {b:Bool} {sz bytes i:Nat} {y:IArg} : WO A false (⟨some t,none,.append b true sz bytes (.tmp i) y⟩ :: os) ⟨T,H,lo,gen⟩ K=appLK A sz bytes i (T i) (y.eval A.glob T) t os T H lo gen K:=by
 rw[WO_cons]
 simp only[evOper,evOp,evAppend,appLK]
 cases hT:T i with
 | nilsl =>
  simp only[cond_true]
  cases elemsOf sz (y.eval A.glob T) with
  | none=>simp[bindW]
  | some f=>simp only[Option.bind_some];cases fitsRows sz bytes [] f<;>simp[bindW,AS.putD,AS.setT]
 | lsl g e =>
  simp only[Bool.true_and]
  cases elemsOf sz (y.eval A.glob T) with
  | none=>simp[bindW]
  | some f=>simp only[Option.bind_some];cases fitsRows sz bytes e f<;>simp[bindW,AS.putD,AS.setT]
 | slice e own =>
  simp only[cond_true]
  cases elemsOf sz (y.eval A.glob T) with
  | none=>simp[bindW]
  | some f=>simp only[Option.bind_some];cases (e.isEmpty&&own&&fitsRows sz bytes [] f)<;>simp[bindW,AS.putD,AS.setT]
 | _=>simp[bindW]
theorem ap_nil {sz bytes i:Nat} {e:List (List AV)} {own:Bool} : appLK A sz bytes i .nilsl (.slice e own) t os T H lo gen K=bindW (cond (fitsRows sz bytes [] e) (some e) none) fun f=>WO A false os ⟨(T.put i .any).put t (.lsl gen f),H,lo,gen+1⟩ K:=rfl
theorem ap_sl {sz bytes i:Nat} {e f:List (List AV)} {o own:Bool} : appLK A sz bytes i (.slice e o) (.slice f own) t os T H lo gen K=bindW (cond (e.isEmpty&&o&&fitsRows sz bytes [] f) (some f) none) fun f=>WO A false os ⟨(T.put i .any).put t (.lsl gen f),H,lo,gen+1⟩ K:=rfl
theorem ap_lsl {sz bytes i g:Nat} {e f:List (List AV)} {own:Bool} : appLK A sz bytes i (.lsl g e) (.slice f own) t os T H lo gen K=bindW (cond (fitsRows sz bytes e f) (some (e++f)) none) fun f=>WO A false os ⟨(T.put i .any).put t (.lsl gen f),H,lo,gen+1⟩ K:=rfl
end
section
variable {A:AP} {T:AFrame} {H:AHeap} {lo gen:Nat} {K:AS→Prop} {d:Bool} {os:List IOper} {t:Nat}
theorem so_nilsl:stepO A d (some AV.nilsl) t os T H lo gen K=WO A d os ⟨T.put t AV.nilsl,H,lo,gen⟩ K:=stepO_some rfl
theorem mk_nilsl {take obj:Bool} {i:Nat} : movK A d take obj i AV.nilsl t os T H lo gen K=WO A d os ⟨T.put t AV.nilsl,H,lo,gen⟩ K:=bindW_some
theorem addrV_nilsl {s:Nat} : addrV s AV.nilsl=.nilsl:=rfl
theorem genOf_nilsl:genOf AV.nilsl=none:=rfl
theorem lenV_nilsl {T:AFrame} : lenV T .sl .nilsl=some (.int .i64 0):=rfl
theorem cellOut_nilsl {base:Nat} : AV.cellOut base .nilsl=AV.plain .nilsl:=rfl
theorem partOut_nilsl {base:Nat} : AV.partOut base .nilsl=AV.cellOut base .nilsl:=rfl
end
def encNil:Option (List (List AV))→AV
 | none=>.nilsl
 | some e=>.slice e false
section
variable {o:Option (List (List AV))} {base:Nat} {A:AP} {T:AFrame} {H:AHeap} {lo gen:Nat} {K:AS→Prop} {d:Bool} {os:List IOper} {t:Nat}
theorem drop_encNil:(encNil o).drop=encNil o:=by cases o<;>rfl
theorem dropAll_encNil:(encNil o).dropAll=encNil o:=by cases o<;>rfl
theorem cells_encNil:(encNil o).cells=some [encNil o]:=by cases o<;>rfl
theorem plain_encNil:(encNil o).plain=true:=by cases o<;>rfl
theorem fc_encNil:frameCell (encNil o)=true:=by cases o<;>rfl
theorem genOf_encNil:genOf (encNil o)=none:=by cases o<;>rfl
theorem cellOut_encNil:AV.cellOut base (encNil o)=true:=by cases o<;>rfl
theorem partOut_encNil:AV.partOut base (encNil o)=true:=by cases o<;>rfl
theorem leaves_encNil:AV.leaves base (encNil o)=true:=by cases o<;>rfl
theorem nbA_encNil:nbA (encNil o)=true:=by cases o<;>rfl
theorem hc_encNil:heapCell base (encNil o)=true:=by cases o<;>rfl
theorem addrV_encNil:addrV base (encNil o)=encNil o:=by cases o<;>rfl
theorem so_encNil:stepO A d (some (encNil o)) t os T H lo gen K=WO A d os ⟨T.put t (encNil o),H,lo,gen⟩ K:=stepO_some genOf_encNil
theorem mk_encNil {take obj:Bool} {i:Nat} : movK A d take obj i (encNil o) t os T H lo gen K=WO A d os ⟨T.put t (encNil o),H,lo,gen⟩ K:=by
 cases o with
 | none=>exact mk_nilsl
 | some e=>exact mk_slf
theorem nbA_nilsl:nbA AV.nilsl=true:=rfl
theorem hc_nilsl:heapCell base AV.nilsl=true:=rfl
theorem leaves_nilsl:AV.leaves base AV.nilsl=true:=rfl
end
end Go.Abs
end
section
set_option linter.defProp false
namespace Go.Proofs.YtaedakihpnghjaaGreatDoor
open Go Go.Abs Go.Proofs
set_option maxRecDepth 100000
def evA:=And.intro (And.intro (And.intro (And.intro (And.intro (And.intro (And.intro (And.intro (And.intro (@x_seq) (@x_block))
 (And.intro (@x_cond) (@x_region)))
 (And.intro (And.intro (@x_skip) (@x_ret))
 (And.intro (@x_exit)
 (And.intro (@x_nil) (@x_setT)))))
 (And.intro (And.intro (And.intro (@x_chg) (@x_normal))
 (And.intro (@x_aret)
 (And.intro (@x_aexit) (@x_lnormal))))
 (And.intro (And.intro (@x_lret) (@x_lexit'))
 (And.intro (@x_loc)
 (And.intro (@x_locg) (@x_exexit))))))
 (And.intro (And.intro (And.intro (And.intro (@x_exret) (@x_dret))
 (And.intro (@x_dpret) (@x_dpnormal)))
 (And.intro (And.intro (@x_dnormal) (@bindW_some))
 (And.intro (@condW_true)
 (And.intro (@condW_false) (@put_get)))))
 (And.intro (And.intro (And.intro (@initT_zero) (@initT_succ))
 (And.intro (@Option.bind_some.{0,0})
 (And.intro (@Option.bind_none.{0,0}) (@Option.map_some.{0,0}))))
 (And.intro (And.intro (@Option.map_none.{0,0}) (@beq_self))
 (And.intro (@beq_self_eq_true.{0})
 (And.intro (@Bool.and_false) (@Bool.false_and)))))))
 (And.intro (And.intro (And.intro (And.intro (And.intro (@Bool.true_and) (@Bool.and_true))
 (And.intro (@Bool.or_true) (@Bool.true_or)))
 (And.intro (And.intro (@Bool.or_false) (@Bool.false_or))
 (And.intro (@Bool.not_true)
 (And.intro (@Bool.not_false) (@decide_true)))))
 (And.intro (And.intro (And.intro (@decide_false) (@List.map_cons.{0,0}))
 (And.intro (@List.map_nil.{0,0})
 (And.intro (@List.all_cons.{0}) (@List.all_nil.{0}))))
 (And.intro (And.intro (@List.length_cons.{0}) (@List.length_nil.{0}))
 (And.intro (@List.getElem?_cons_zero.{0})
 (And.intro (@List.getElem?_cons_succ.{0}) (@List.nil_append.{0}))))))
 (And.intro (And.intro (And.intro (And.intro (@List.append_nil.{0}) (@List.cons_append.{0}))
 (And.intro (@wrap64) (@asNat_nat)))
 (And.intro (And.intro (@asNat_lit) (@asNat_add))
 (And.intro (@Option.some.injEq.{0})
 (And.intro (@Prod.mk.injEq.{0,0}) (@Nat.zero_add)))))
 (And.intro (And.intro (And.intro (@List.drop_zero.{0}) (@ble_dec))
 (And.intro (@blt_dec)
 (And.intro (@dle) (@dlt))))
 (And.intro (And.intro (@List.take_succ_cons.{0}) (@List.take_zero.{0}))
 (And.intro (@List.drop_succ_cons.{0})
 (And.intro (@Int.natCast_add) (@Int.cast_ofNat_Int))))))))
 (And.intro (And.intro (And.intro (And.intro (And.intro (And.intro (@List.set_cons_zero.{0}) (@List.set_cons_succ.{0}))
 (And.intro (@app_nil) (@app_ints)))
 (And.intro (And.intro (@app_int) (@app_int0))
 (And.intro (@app_cons)
 (And.intro (@app_ints0) (@app_strs)))))
 (And.intro (And.intro (And.intro (@app_str) (@app_str0))
 (And.intro (@ints_nb)
 (And.intro (@strs_nb) (@beq_tf))))
 (And.intro (And.intro (@nbeq_f) (@nbeq_t))
 (And.intro (@chunks_strs)
 (And.intro (@take_strs) (@List.length_map.{0,0}))))))
 (And.intro (And.intro (And.intro (And.intro (@beq_ft) (@ge_iff_le.{0}))
 (And.intro (@gt_iff_lt.{0}) (@AV.int.injEq)))
 (And.intro (And.intro (@AV.str.injEq) (@AV.bool.injEq))
 (And.intro (@AV.slice.injEq)
 (And.intro (@true_and) (@and_true)))))
 (And.intro (And.intro (And.intro (@and_self) (@drop_bool))
 (And.intro (@drop_int)
 (And.intro (@drop_str) (@drop_any))))
 (And.intro (And.intro (@drop_nilptr) (@drop_nilmap))
 (And.intro (@drop_nilfunc)
 (And.intro (@drop_niliface) (@drop_slice)))))))
 (And.intro (And.intro (And.intro (And.intro (And.intro (@drop_eptr) (@drop_ref))
 (And.intro (@drop_lbox) (@drop_lref)))
 (And.intro (And.intro (@drop_lsl) (@drop_lsr))
 (And.intro (@drop_eref)
 (And.intro (@drop_func) (@drop_iface)))))
 (And.intro (And.intro (And.intro (@drop_agg) (@drop_tuple))
 (And.intro (@dropAll_bool)
 (And.intro (@dropAll_int) (@dropAll_str))))
 (And.intro (And.intro (@dropAll_any) (@dropAll_nilptr))
 (And.intro (@dropAll_nilmap)
 (And.intro (@dropAll_nilfunc) (@dropAll_niliface))))))
 (And.intro (And.intro (And.intro (And.intro (@dropAll_slice) (@dropAll_eptr))
 (And.intro (@dropAll_ref)
 (And.intro (@dropAll_lbox) (@dropAll_lref))))
 (And.intro (And.intro (@dropAll_lsl) (@dropAll_lsr))
 (And.intro (@dropAll_eref)
 (And.intro (@dropAll_func) (@dropAll_iface)))))
 (And.intro (And.intro (And.intro (@dropAll_agg) (@dropAll_tuple))
 (And.intro (@fc_bool)
 (And.intro (@fc_int) (@fc_str))))
 (And.intro (And.intro (@fc_any) (@fc_nilptr))
 (And.intro (@fc_nilmap)
 (And.intro (@fc_nilfunc) (@fc_niliface)))))))))
 (And.intro (And.intro (And.intro (And.intro (And.intro (And.intro (And.intro (@fc_slice) (@fc_eptr))
 (And.intro (@fc_ref) (@fc_lbox)))
 (And.intro (And.intro (@fc_lref) (@fc_lsl))
 (And.intro (@fc_lsr)
 (And.intro (@fc_eref) (@fc_func)))))
 (And.intro (And.intro (And.intro (@fc_iface) (@fc_agg))
 (And.intro (@fc_tuple)
 (And.intro (@genOf_bool) (@genOf_int))))
 (And.intro (And.intro (@genOf_str) (@genOf_any))
 (And.intro (@genOf_nilptr)
 (And.intro (@genOf_nilmap) (@genOf_nilfunc))))))
 (And.intro (And.intro (And.intro (And.intro (@genOf_niliface) (@genOf_slice))
 (And.intro (@genOf_eptr) (@genOf_ref)))
 (And.intro (And.intro (@genOf_lbox) (@genOf_lref))
 (And.intro (@genOf_lsl)
 (And.intro (@genOf_lsr) (@genOf_eref)))))
 (And.intro (And.intro (And.intro (@genOf_func) (@genOf_iface))
 (And.intro (@genOf_agg)
 (And.intro (@genOf_tuple) (@cells_bool))))
 (And.intro (And.intro (@cells_int) (@cells_str))
 (And.intro (@cells_any)
 (And.intro (@cells_nilptr) (@cells_nilmap)))))))
 (And.intro (And.intro (And.intro (And.intro (And.intro (@cells_nilfunc) (@cells_niliface))
 (And.intro (@cells_slice) (@cells_eptr)))
 (And.intro (And.intro (@cells_ref) (@cells_lbox))
 (And.intro (@cells_lref)
 (And.intro (@cells_lsl) (@cells_lsr)))))
 (And.intro (And.intro (And.intro (@cells_eref) (@cells_func))
 (And.intro (@cells_iface)
 (And.intro (@cells_agg) (@cells_tuple))))
 (And.intro (And.intro (@plain_bool) (@plain_int))
 (And.intro (@plain_str)
 (And.intro (@plain_any) (@plain_nilptr))))))
 (And.intro (And.intro (And.intro (And.intro (@plain_nilmap) (@plain_nilfunc))
 (And.intro (@plain_niliface) (@plain_slice)))
 (And.intro (And.intro (@plain_eptr) (@plain_ref))
 (And.intro (@plain_lbox)
 (And.intro (@plain_lref) (@plain_lsl)))))
 (And.intro (And.intro (And.intro (@plain_lsr) (@plain_eref))
 (And.intro (@plain_agg)
 (And.intro (@plain_tuple) (@cellOut_bool))))
 (And.intro (And.intro (@cellOut_int) (@cellOut_str))
 (And.intro (@cellOut_any)
 (And.intro (@cellOut_nilptr) (@cellOut_nilmap))))))))
 (And.intro (And.intro (And.intro (And.intro (And.intro (And.intro (@cellOut_nilfunc) (@cellOut_niliface))
 (And.intro (@cellOut_slice) (@cellOut_eptr)))
 (And.intro (And.intro (@cellOut_ref) (@cellOut_lbox))
 (And.intro (@cellOut_lref)
 (And.intro (@cellOut_lsl) (@cellOut_lsr)))))
 (And.intro (And.intro (And.intro (@cellOut_eref) (@cellOut_func))
 (And.intro (@cellOut_iface)
 (And.intro (@cellOut_agg) (@cellOut_tuple))))
 (And.intro (And.intro (@partOut_bool) (@partOut_int))
 (And.intro (@partOut_str)
 (And.intro (@partOut_any) (@partOut_nilptr))))))
 (And.intro (And.intro (And.intro (And.intro (@partOut_nilmap) (@partOut_nilfunc))
 (And.intro (@partOut_niliface) (@partOut_slice)))
 (And.intro (And.intro (@partOut_eptr) (@partOut_ref))
 (And.intro (@partOut_lbox)
 (And.intro (@partOut_lref) (@partOut_lsl)))))
 (And.intro (And.intro (And.intro (@partOut_lsr) (@partOut_eref))
 (And.intro (@partOut_func)
 (And.intro (@partOut_iface) (@partOut_agg))))
 (And.intro (And.intro (@partOut_tuple) (@leaves_bool))
 (And.intro (@leaves_int)
 (And.intro (@leaves_str) (@leaves_any)))))))
 (And.intro (And.intro (And.intro (And.intro (And.intro (@leaves_nilptr) (@leaves_nilmap))
 (And.intro (@leaves_nilfunc) (@leaves_niliface)))
 (And.intro (And.intro (@leaves_slice) (@leaves_eptr))
 (And.intro (@leaves_ref)
 (And.intro (@leaves_lbox) (@leaves_lref)))))
 (And.intro (And.intro (And.intro (@leaves_lsl) (@leaves_lsr))
 (And.intro (@leaves_eref)
 (And.intro (@leaves_func) (@leaves_iface))))
 (And.intro (And.intro (@leaves_agg) (@leaves_tuple))
 (And.intro (@addrV_bool)
 (And.intro (@addrV_int) (@addrV_str))))))
 (And.intro (And.intro (And.intro (And.intro (@addrV_any) (@addrV_nilptr))
 (And.intro (@addrV_nilmap)
 (And.intro (@addrV_nilfunc) (@addrV_niliface))))
 (And.intro (And.intro (@addrV_slice) (@addrV_eptr))
 (And.intro (@addrV_ref)
 (And.intro (@addrV_lbox) (@addrV_lref)))))
 (And.intro (And.intro (And.intro (@addrV_lsl) (@addrV_lsr))
 (And.intro (@addrV_eref)
 (And.intro (@addrV_func) (@addrV_iface))))
 (And.intro (And.intro (@addrV_agg) (@addrV_tuple))
 (And.intro (@so_bool)
 (And.intro (@so_int) (@so_str))))))))))
 (And.intro (And.intro (And.intro (And.intro (And.intro (And.intro (And.intro (And.intro (@so_any) (@so_nilptr))
 (And.intro (@so_nilmap) (@so_nilfunc)))
 (And.intro (And.intro (@so_niliface) (@so_slice))
 (And.intro (@so_eptr)
 (And.intro (@so_ref) (@so_lref)))))
 (And.intro (And.intro (And.intro (@so_lsr) (@so_eref))
 (And.intro (@so_func)
 (And.intro (@so_iface) (@so_agg))))
 (And.intro (And.intro (@so_tuple) (@mk_bool))
 (And.intro (@mk_int)
 (And.intro (@mk_str) (@mk_any))))))
 (And.intro (And.intro (And.intro (And.intro (@mk_nilptr) (@mk_nilmap))
 (And.intro (@mk_nilfunc) (@mk_niliface)))
 (And.intro (And.intro (@mk_eptr) (@mk_ref))
 (And.intro (@mk_lbox)
 (And.intro (@mk_lref) (@mk_lsr)))))
 (And.intro (And.intro (And.intro (@mk_eref) (@mk_func))
 (And.intro (@mk_iface)
 (And.intro (@mk_agg) (@mk_tuple))))
 (And.intro (And.intro (@rv_bool) (@rv_int))
 (And.intro (@rv_str)
 (And.intro (@rv_any) (@rv_nilptr)))))))
 (And.intro (And.intro (And.intro (And.intro (And.intro (@rv_nilmap) (@rv_nilfunc))
 (And.intro (@rv_niliface) (@rv_slice)))
 (And.intro (And.intro (@rv_eptr) (@rv_ref))
 (And.intro (@rv_lsl)
 (And.intro (@rv_func) (@rv_iface)))))
 (And.intro (And.intro (And.intro (@rv_agg) (@rv_tuple))
 (And.intro (@r_addr)
 (And.intro (@mk_slf) (@mk_slt))))
 (And.intro (And.intro (@mk_sl0) (@mk_lsl0))
 (And.intro (@mk_lslt)
 (And.intro (@r_mov) (@r_movc))))))
 (And.intro (And.intro (And.intro (And.intro (@r_movg) (@r_movf))
 (And.intro (@r_guard) (@r_gtt)))
 (And.intro (And.intro (@r_gff) (@r_gtf))
 (And.intro (@r_gft)
 (And.intro (@r_gun) (@r_pick)))))
 (And.intro (And.intro (And.intro (@r_pickt) (@r_pickf))
 (And.intro (@r_allocL)
 (And.intro (@r_allocH) (@r_build))))
 (And.intro (And.intro (@r_mkslice) (@r_mk))
 (And.intro (@r_load0)
 (And.intro (@r_loadX) (@r_lslC))))))))
 (And.intro (And.intro (And.intro (And.intro (And.intro (And.intro (@r_rowC) (@r_loadE))
 (And.intro (@r_loadR) (@r_boxC)))
 (And.intro (And.intro (@r_loadL) (@r_lboxC))
 (And.intro (@r_cellsA)
 (And.intro (@r_cells1) (@r_bin)))))
 (And.intro (And.intro (And.intro (@r_un) (@r_conv))
 (And.intro (@r_iface)
 (And.intro (@r_slice) (@r_bii))))
 (And.intro (And.intro (@r_bss) (@r_bbb))
 (And.intro (@r_fieldAddr)
 (And.intro (@r_faE) (@r_faR))))))
 (And.intro (And.intro (And.intro (And.intro (@r_faL) (@r_lboxLive))
 (And.intro (@r_faX) (@r_lslLive)))
 (And.intro (And.intro (@r_ixArr) (@r_field))
 (And.intro (@r_fieldA)
 (And.intro (@r_ixSl) (@r_ixS)))))
 (And.intro (And.intro (And.intro (@r_ixL) (@r_rowV))
 (And.intro (@r_index)
 (And.intro (@r_indexA) (@r_indexStr))))
 (And.intro (And.intro (@r_byteV) (@r_byteAt))
 (And.intro (@r_extract)
 (And.intro (@r_extrT) (@r_len)))))))
 (And.intro (And.intro (And.intro (And.intro (And.intro (@r_lenS) (@r_lenE))
 (And.intro (@r_lenL) (@r_call)))
 (And.intro (And.intro (@r_calln) (@r_callv))
 (And.intro (@r_callF)
 (And.intro (@r_ret) (@r_retd)))))
 (And.intro (And.intro (And.intro (@r_retc) (@r_retn))
 (And.intro (@r_retnc)
 (And.intro (@r_append) (@r_appK))))
 (And.intro (And.intro (@r_appc) (@r_store))
 (And.intro (@r_loadT)
 (And.intro (@r_boxK) (@r_nilCheck))))))
 (And.intro (And.intro (And.intro (And.intro (@r_mkfunc) (@r_addrc))
 (And.intro (@r_addrg)
 (And.intro (@r_addrf) (@r_spn))))
 (And.intro (And.intro (@r_spc) (@r_spk))
 (And.intro (@r_elemA)
 (And.intro (@r_elemI) (@r_elemS)))))
 (And.intro (And.intro (And.intro (@r_elemB) (@r_elemL))
 (And.intro (@r_bpn)
 (And.intro (@r_bpc) (@r_bpk))))
 (And.intro (And.intro (@r_rows) (@r_nb))
 (And.intro (@r_nb0)
 (And.intro (@r_nbc) (@r_nbr0)))))))))
 (And.intro (And.intro (And.intro (And.intro (And.intro (And.intro (And.intro (@r_nbrc) (@r_nbi))
 (And.intro (@r_nbs) (@r_nbb)))
 (And.intro (And.intro (@r_nbl) (@r_nbg))
 (And.intro (@r_fin)
 (And.intro (@r_finv) (@r_res1)))))
 (And.intro (And.intro (And.intro (@r_reslsr) (@r_lslRes))
 (And.intro (@r_res1c)
 (And.intro (@r_res0) (@r_res2))))
 (And.intro (And.intro (@r_resn) (@r_ress))
 (And.intro (@r_consO)
 (And.intro (@r_rest) (@r_resc))))))
 (And.intro (And.intro (And.intro (And.intro (@r_rescl) (@r_rescr))
 (And.intro (@drop_sref) (@dropAll_sref)))
 (And.intro (And.intro (@fc_sref) (@genOf_sref))
 (And.intro (@cells_sref)
 (And.intro (@plain_sref) (@cellOut_sref)))))
 (And.intro (And.intro (And.intro (@partOut_sref) (@leaves_sref))
 (And.intro (@addrV_sref)
 (And.intro (@so_sref) (@mk_sref))))
 (And.intro (And.intro (@rv_sref) (@r_ixR))
 (And.intro (@r_lenR)
 (And.intro (@r_resB) (@drop_fmap)))))))
 (And.intro (And.intro (And.intro (And.intro (And.intro (@drop_mref) (@dropAll_fmap))
 (And.intro (@dropAll_mref) (@fc_fmap)))
 (And.intro (And.intro (@fc_mref) (@genOf_fmap))
 (And.intro (@genOf_mref)
 (And.intro (@cells_fmap) (@cells_mref)))))
 (And.intro (And.intro (And.intro (@plain_fmap) (@plain_mref))
 (And.intro (@cellOut_fmap)
 (And.intro (@cellOut_mref) (@partOut_fmap))))
 (And.intro (And.intro (@partOut_mref) (@leaves_fmap))
 (And.intro (@leaves_mref)
 (And.intro (@addrV_fmap) (@addrV_mref))))))
 (And.intro (And.intro (And.intro (And.intro (@so_fmap) (@so_mref))
 (And.intro (@mk_fmap) (@mk_mref)))
 (And.intro (And.intro (@rv_fmap) (@rv_mref))
 (And.intro (@r_mm)
 (And.intro (@r_mmI) (@r_appO)))))
 (And.intro (And.intro (And.intro (@r_mkarr) (@r_mkmap))
 (And.intro (@r_look)
 (And.intro (@r_mlen) (@r_mset))))
 (And.intro (And.intro (@hp_app) (@hp_len))
 (And.intro (@hp_get)
 (And.intro (@hp_get0) (@hp_set))))))))
 (And.intro (And.intro (And.intro (And.intro (And.intro (And.intro (@hp_set0) (@hp_take))
 (And.intro (@hp_lt) (@hp_lt0)))
 (And.intro (And.intro (@bx_agg) (@bx_int))
 (And.intro (@hc_int)
 (And.intro (@hc_bool) (@hc_str)))))
 (And.intro (And.intro (And.intro (@hc_slice) (@hc_sref))
 (And.intro (@hc_ref)
 (And.intro (@hc_nil) (@r_chk))))
 (And.intro (And.intro (@r_chkg) (@r_ctt))
 (And.intro (@r_cff)
 (And.intro (@r_ctf) (@r_cft))))))
 (And.intro (And.intro (And.intro (And.intro (@r_cun) (@r_cany))
 (And.intro (@r_boxL) (@bl_agg)))
 (And.intro (And.intro (@r_callP) (@r_retP))
 (And.intro (@r_mkslO)
 (And.intro (@ck_fl) (@ck_hr)))))
 (And.intro (And.intro (And.intro (@ck_he) (@ck_hs))
 (And.intro (@ck_hS)
 (And.intro (@ck_hm) (@ck_hn))))
 (And.intro (And.intro (@ck_hN) (@ck_ht))
 (And.intro (@ck_ha)
 (And.intro (@ck_ie) (@ck_is)))))))
 (And.intro (And.intro (And.intro (And.intro (And.intro (@drop_nilsl) (@dropAll_nilsl))
 (And.intro (@cells_nilsl) (@plain_nilsl)))
 (And.intro (And.intro (@fc_nilsl) (@r_appN))
 (And.intro (@r_callT)
 (And.intro (@r_callTc) (@ct_slice)))))
 (And.intro (And.intro (And.intro (@r_appL) (@ap_nil))
 (And.intro (@ap_lsl)
 (And.intro (@so_nilsl) (@mk_nilsl))))
 (And.intro (And.intro (@addrV_nilsl) (@genOf_nilsl))
 (And.intro (@lenV_nilsl)
 (And.intro (@cellOut_nilsl) (@partOut_nilsl))))))
 (And.intro (And.intro (And.intro (And.intro (@ap_sl) (@drop_encNil))
 (And.intro (@dropAll_encNil)
 (And.intro (@cells_encNil) (@plain_encNil))))
 (And.intro (And.intro (@fc_encNil) (@genOf_encNil))
 (And.intro (@cellOut_encNil)
 (And.intro (@partOut_encNil) (@leaves_encNil)))))
 (And.intro (And.intro (And.intro (@nbA_encNil) (@hc_encNil))
 (And.intro (@addrV_encNil)
 (And.intro (@so_encNil) (@mk_encNil))))
 (And.intro (And.intro (@nbA_nilsl) (@hc_nilsl))
 (And.intro (@leaves_nilsl)
 (And.intro (@r_openB) (@mk_lslz))))))))))
end Go.Proofs.YtaedakihpnghjaaGreatDoor
end
section
set_option linter.unusedSimpArgs false
set_option linter.unusedVariables false
set_option maxRecDepth 100000
namespace Go.Proofs.YtaedakihpnghjaaGreatDoor
open Go Go.Abs Go.Proofs
def ovLives (args:List AV) (H:AHeap):Option (AV × Option Chg) :=
 match args,H with
 | [],[]=>some (.bool true,none)
 | _,_=>none
def ovB:FuncId→Option (List AV→AHeap→Option (AV × Option Chg))
 | 8=>some ovLives
 | _=>none
def B:AP:={ fns,ov:=ovB,glob:=tab }
abbrev Str:=List UInt8
def around (n k:Int):Int:=(if n<0 then -(n+1) else n).tmod k
theorem around_D (n k:Int) (H:AHeap) (hn:I64 n) (hk:0<k):callD B 7 [.int .i64 n,.int .i64 k] H=some (.int .i64 (around n k),none):=by
 obtain⟨h1,h2⟩:=hn
 have hk' : k≠0:=by omega
 refine callD_W (fn:=ir7) rfl rfl rfl ?_
 unfold ir7
 simp (disch:=omega) only[evA,argsV,argsOK,partsV,elemsV,optV,evOper,evOp,evAppend,IArg.eval,AS.putD,↓reduceIte,Nat.reduceEqDiff,Option.isSome,Option.isNone,cond_true,cond_false,Nat.reduceBEq,Nat.reduceAdd,Nat.reduceMul,binInt,binStr,eq_self,reduceCtorEq,unAV,lenAV,convAV,sliceAV,bound,isCon,AS.spent,liveAddr,offAddr,elemsOf,Nat.reduceLeDiff,nilCmp,putAt,Int.reduceEq,Int.reduceLT,Int.reduceLE,Int.reduceBEq,Int.reduceBNe,Int.reduceAdd,Int.reduceNeg,Int.reduceSub,Int.reduceMul]
 refine condW_dec ?_ ?_<;>intro h
 ·simp (disch:=omega) only[evA,argsV,argsOK,partsV,elemsV,optV,evOper,evOp,evAppend,IArg.eval,AS.putD,↓reduceIte,Nat.reduceEqDiff,Option.isSome,Option.isNone,cond_true,cond_false,Nat.reduceBEq,Nat.reduceAdd,Nat.reduceMul,binInt,binStr,eq_self,reduceCtorEq,unAV,lenAV,convAV,sliceAV,bound,isCon,AS.spent,liveAddr,offAddr,elemsOf,Nat.reduceLeDiff,nilCmp,putAt,Int.reduceEq,Int.reduceLT,Int.reduceLE,Int.reduceBEq,Int.reduceBNe,Int.reduceAdd,Int.reduceNeg,Int.reduceSub,Int.reduceMul,hk',around,if_pos h]
  simp only[show 0-(n+1)=-(n+1) by omega]
 ·simp (disch:=omega) only[evA,argsV,argsOK,partsV,elemsV,optV,evOper,evOp,evAppend,IArg.eval,AS.putD,↓reduceIte,Nat.reduceEqDiff,Option.isSome,Option.isNone,cond_true,cond_false,Nat.reduceBEq,Nat.reduceAdd,Nat.reduceMul,binInt,binStr,eq_self,reduceCtorEq,unAV,lenAV,convAV,sliceAV,bound,isCon,AS.spent,liveAddr,offAddr,elemsOf,Nat.reduceLeDiff,nilCmp,putAt,Int.reduceEq,Int.reduceLT,Int.reduceLE,Int.reduceBEq,Int.reduceBNe,Int.reduceAdd,Int.reduceNeg,Int.reduceSub,Int.reduceMul,hk',around,if_neg h]
theorem same_D (a b:List Str) (H:AHeap) (o o' : Bool) (ha:a.length≤1000000):callD B 4 [.slice (strs a) false,.slice (strs b) false] H=some (.bool (a==b),none):=by
 refine callD_W (fn:=ir4) rfl rfl rfl ?_
 unfold ir4
 simp (disch:=omega) only[evA,argsV,argsOK,partsV,elemsV,optV,evOper,evOp,evAppend,IArg.eval,AS.putD,↓reduceIte,Nat.reduceEqDiff,Option.isSome,Option.isNone,cond_true,cond_false,Nat.reduceBEq,Nat.reduceAdd,Nat.reduceMul,binInt,binStr,eq_self,reduceCtorEq,unAV,lenAV,convAV,sliceAV,bound,isCon,AS.spent,liveAddr,offAddr,elemsOf,Nat.reduceLeDiff,nilCmp,putAt,Int.reduceEq,Int.reduceLT,Int.reduceLE,Int.reduceBEq,Int.reduceBNe,Int.reduceAdd,Int.reduceNeg,Int.reduceSub,Int.reduceMul,strs_len]
 refine condW_split ?_ ?_<;>intro hlen
 ·have hne:a≠b:=fun e=>by subst e;simp at hlen
  simp (disch:=omega) only[evA,argsV,argsOK,partsV,elemsV,optV,evOper,evOp,evAppend,IArg.eval,AS.putD,↓reduceIte,Nat.reduceEqDiff,Option.isSome,Option.isNone,cond_true,cond_false,Nat.reduceBEq,Nat.reduceAdd,Nat.reduceMul,binInt,binStr,eq_self,reduceCtorEq,unAV,lenAV,convAV,sliceAV,bound,isCon,AS.spent,liveAddr,offAddr,elemsOf,Nat.reduceLeDiff,nilCmp,putAt,Int.reduceEq,Int.reduceLT,Int.reduceLE,Int.reduceBEq,Int.reduceBNe,Int.reduceAdd,Int.reduceNeg,Int.reduceSub,Int.reduceMul,show (a==b)=false by simpa using hne]
 have hlen' : a.length=b.length:=by
  have:(a.length:Int)=b.length:=by simpa using hlen
  omega
 simp (disch:=omega) only[evA,argsV,argsOK,partsV,elemsV,optV,evOper,evOp,evAppend,IArg.eval,AS.putD,↓reduceIte,Nat.reduceEqDiff,Option.isSome,Option.isNone,cond_true,cond_false,Nat.reduceBEq,Nat.reduceAdd,Nat.reduceMul,binInt,binStr,eq_self,reduceCtorEq,unAV,lenAV,convAV,sliceAV,bound,isCon,AS.spent,liveAddr,offAddr,elemsOf,Nat.reduceLeDiff,nilCmp,putAt,Int.reduceEq,Int.reduceLT,Int.reduceLE,Int.reduceBEq,Int.reduceBNe,Int.reduceAdd,Int.reduceNeg,Int.reduceSub,Int.reduceMul]
 refine W_count a.length (fun i=>Hd (fun T=>T 0=.slice (strs a) false∧T 1=.slice (strs b) false∧T 5=.int .i64 i∧(a==b)=(a.drop i==b.drop i)) H H.length 0) ?_ 0 _ (Nat.zero_le _) ?_
 ·rintro i s hi hs
  obtain⟨T,rfl,h0,h1,h5,hc⟩:=hs.out
  simp (disch:=omega) only[evA,argsV,argsOK,partsV,elemsV,optV,evOper,evOp,evAppend,IArg.eval,AS.putD,↓reduceIte,Nat.reduceEqDiff,Option.isSome,Option.isNone,cond_true,cond_false,Nat.reduceBEq,Nat.reduceAdd,Nat.reduceMul,binInt,binStr,eq_self,reduceCtorEq,unAV,lenAV,convAV,sliceAV,bound,isCon,AS.spent,liveAddr,offAddr,elemsOf,Nat.reduceLeDiff,nilCmp,putAt,Int.reduceEq,Int.reduceLT,Int.reduceLE,Int.reduceBEq,Int.reduceBNe,Int.reduceAdd,Int.reduceNeg,Int.reduceSub,Int.reduceMul,h0,h5,strs_len]
  refine condW_dec ?_ ?_<;>intro h
  ·have hi' : i<a.length:=by omega
   have hi2:i<b.length:=by omega
   simp (disch:=omega) only[evA,argsV,argsOK,partsV,elemsV,optV,evOper,evOp,evAppend,IArg.eval,AS.putD,↓reduceIte,Nat.reduceEqDiff,Option.isSome,Option.isNone,cond_true,cond_false,Nat.reduceBEq,Nat.reduceAdd,Nat.reduceMul,binInt,binStr,eq_self,reduceCtorEq,unAV,lenAV,convAV,sliceAV,bound,isCon,AS.spent,liveAddr,offAddr,elemsOf,Nat.reduceLeDiff,nilCmp,putAt,Int.reduceEq,Int.reduceLT,Int.reduceLE,Int.reduceBEq,Int.reduceBNe,Int.reduceAdd,Int.reduceNeg,Int.reduceSub,Int.reduceMul,h0,h1,h5,strs_at (List.getElem?_eq_getElem hi'),strs_at (List.getElem?_eq_getElem hi2)]
   refine condW_split ?_ ?_<;>intro hb
   ·simp (disch:=omega) only[evA,argsV,argsOK,partsV,elemsV,optV,evOper,evOp,evAppend,IArg.eval,AS.putD,↓reduceIte,Nat.reduceEqDiff,Option.isSome,Option.isNone,cond_true,cond_false,Nat.reduceBEq,Nat.reduceAdd,Nat.reduceMul,binInt,binStr,eq_self,reduceCtorEq,unAV,lenAV,convAV,sliceAV,bound,isCon,AS.spent,liveAddr,offAddr,elemsOf,Nat.reduceLeDiff,nilCmp,putAt,Int.reduceEq,Int.reduceLT,Int.reduceLE,Int.reduceBEq,Int.reduceBNe,Int.reduceAdd,Int.reduceNeg,Int.reduceSub,Int.reduceMul,hc,List.drop_eq_getElem_cons hi',List.drop_eq_getElem_cons hi2,List.cons_beq_cons,show (a[i]==b[i])=false by simpa using hb]
   ·simp (disch:=omega) only[evA,argsV,argsOK,partsV,elemsV,optV,evOper,evOp,evAppend,IArg.eval,AS.putD,↓reduceIte,Nat.reduceEqDiff,Option.isSome,Option.isNone,cond_true,cond_false,Nat.reduceBEq,Nat.reduceAdd,Nat.reduceMul,binInt,binStr,eq_self,reduceCtorEq,unAV,lenAV,convAV,sliceAV,bound,isCon,AS.spent,liveAddr,offAddr,elemsOf,Nat.reduceLeDiff,nilCmp,putAt,Int.reduceEq,Int.reduceLT,Int.reduceLE,Int.reduceBEq,Int.reduceBNe,Int.reduceAdd,Int.reduceNeg,Int.reduceSub,Int.reduceMul,h0,h1,h5]
    exact⟨hi',by rw[hc,List.drop_eq_getElem_cons hi',List.drop_eq_getElem_cons hi2,List.cons_beq_cons,show (a[i]==b[i])=true by simpa using hb,Bool.true_and]⟩
  ·have:i=a.length:=by omega
   subst this
   simp (disch:=omega) only[evA,argsV,argsOK,partsV,elemsV,optV,evOper,evOp,evAppend,IArg.eval,AS.putD,↓reduceIte,Nat.reduceEqDiff,Option.isSome,Option.isNone,cond_true,cond_false,Nat.reduceBEq,Nat.reduceAdd,Nat.reduceMul,binInt,binStr,eq_self,reduceCtorEq,unAV,lenAV,convAV,sliceAV,bound,isCon,AS.spent,liveAddr,offAddr,elemsOf,Nat.reduceLeDiff,nilCmp,putAt,Int.reduceEq,Int.reduceLT,Int.reduceLE,Int.reduceBEq,Int.reduceBNe,Int.reduceAdd,Int.reduceNeg,Int.reduceSub,Int.reduceMul,hc,List.drop_length,show b.drop a.length=[] by rw[hlen',List.drop_length]]
 ·simp (disch:=omega) only[evA,argsV,argsOK,partsV,elemsV,optV,evOper,evOp,evAppend,IArg.eval,AS.putD,↓reduceIte,Nat.reduceEqDiff,Option.isSome,Option.isNone,cond_true,cond_false,Nat.reduceBEq,Nat.reduceAdd,Nat.reduceMul,binInt,binStr,eq_self,reduceCtorEq,unAV,lenAV,convAV,sliceAV,bound,isCon,AS.spent,liveAddr,offAddr,elemsOf,Nat.reduceLeDiff,nilCmp,putAt,Int.reduceEq,Int.reduceLT,Int.reduceLE,Int.reduceBEq,Int.reduceBNe,Int.reduceAdd,Int.reduceNeg,Int.reduceSub,Int.reduceMul,List.drop_zero,Int.natCast_zero]
def tightB (a b:Str):Bool:=b==[41] || b==[93] || b==[44] || b==[46] || a==[40] || a==[91] || a==[46]
theorem tight_D (a b:Str) (H:AHeap):callD B 17 [.str a,.str b] H=some (.bool (tightB a b),none):=by
 refine callD_W (fn:=ir17) rfl rfl rfl ?_
 unfold ir17 tightB
 cases h1:(b==[41]) with
 | true=>simp (disch:=omega) only[evA,argsV,argsOK,partsV,elemsV,optV,evOper,evOp,evAppend,IArg.eval,AS.putD,↓reduceIte,Nat.reduceEqDiff,Option.isSome,Option.isNone,cond_true,cond_false,Nat.reduceBEq,Nat.reduceAdd,Nat.reduceMul,binInt,binStr,eq_self,reduceCtorEq,unAV,lenAV,convAV,sliceAV,bound,isCon,AS.spent,liveAddr,offAddr,elemsOf,Nat.reduceLeDiff,nilCmp,putAt,Int.reduceEq,Int.reduceLT,Int.reduceLE,Int.reduceBEq,Int.reduceBNe,Int.reduceAdd,Int.reduceNeg,Int.reduceSub,Int.reduceMul,h1]
 | false =>
 cases h2:(b==[93]) with
 | true=>simp (disch:=omega) only[evA,argsV,argsOK,partsV,elemsV,optV,evOper,evOp,evAppend,IArg.eval,AS.putD,↓reduceIte,Nat.reduceEqDiff,Option.isSome,Option.isNone,cond_true,cond_false,Nat.reduceBEq,Nat.reduceAdd,Nat.reduceMul,binInt,binStr,eq_self,reduceCtorEq,unAV,lenAV,convAV,sliceAV,bound,isCon,AS.spent,liveAddr,offAddr,elemsOf,Nat.reduceLeDiff,nilCmp,putAt,Int.reduceEq,Int.reduceLT,Int.reduceLE,Int.reduceBEq,Int.reduceBNe,Int.reduceAdd,Int.reduceNeg,Int.reduceSub,Int.reduceMul,h1,h2]
 | false =>
 cases h3:(b==[44]) with
 | true=>simp (disch:=omega) only[evA,argsV,argsOK,partsV,elemsV,optV,evOper,evOp,evAppend,IArg.eval,AS.putD,↓reduceIte,Nat.reduceEqDiff,Option.isSome,Option.isNone,cond_true,cond_false,Nat.reduceBEq,Nat.reduceAdd,Nat.reduceMul,binInt,binStr,eq_self,reduceCtorEq,unAV,lenAV,convAV,sliceAV,bound,isCon,AS.spent,liveAddr,offAddr,elemsOf,Nat.reduceLeDiff,nilCmp,putAt,Int.reduceEq,Int.reduceLT,Int.reduceLE,Int.reduceBEq,Int.reduceBNe,Int.reduceAdd,Int.reduceNeg,Int.reduceSub,Int.reduceMul,h1,h2,h3]
 | false =>
 cases h4:(b==[46]) with
 | true=>simp (disch:=omega) only[evA,argsV,argsOK,partsV,elemsV,optV,evOper,evOp,evAppend,IArg.eval,AS.putD,↓reduceIte,Nat.reduceEqDiff,Option.isSome,Option.isNone,cond_true,cond_false,Nat.reduceBEq,Nat.reduceAdd,Nat.reduceMul,binInt,binStr,eq_self,reduceCtorEq,unAV,lenAV,convAV,sliceAV,bound,isCon,AS.spent,liveAddr,offAddr,elemsOf,Nat.reduceLeDiff,nilCmp,putAt,Int.reduceEq,Int.reduceLT,Int.reduceLE,Int.reduceBEq,Int.reduceBNe,Int.reduceAdd,Int.reduceNeg,Int.reduceSub,Int.reduceMul,h1,h2,h3,h4]
 | false =>
 cases h5:(a==[40]) with
 | true=>simp (disch:=omega) only[evA,argsV,argsOK,partsV,elemsV,optV,evOper,evOp,evAppend,IArg.eval,AS.putD,↓reduceIte,Nat.reduceEqDiff,Option.isSome,Option.isNone,cond_true,cond_false,Nat.reduceBEq,Nat.reduceAdd,Nat.reduceMul,binInt,binStr,eq_self,reduceCtorEq,unAV,lenAV,convAV,sliceAV,bound,isCon,AS.spent,liveAddr,offAddr,elemsOf,Nat.reduceLeDiff,nilCmp,putAt,Int.reduceEq,Int.reduceLT,Int.reduceLE,Int.reduceBEq,Int.reduceBNe,Int.reduceAdd,Int.reduceNeg,Int.reduceSub,Int.reduceMul,h1,h2,h3,h4,h5]
 | false =>
 cases h6:(a==[91]) with
 | true=>simp (disch:=omega) only[evA,argsV,argsOK,partsV,elemsV,optV,evOper,evOp,evAppend,IArg.eval,AS.putD,↓reduceIte,Nat.reduceEqDiff,Option.isSome,Option.isNone,cond_true,cond_false,Nat.reduceBEq,Nat.reduceAdd,Nat.reduceMul,binInt,binStr,eq_self,reduceCtorEq,unAV,lenAV,convAV,sliceAV,bound,isCon,AS.spent,liveAddr,offAddr,elemsOf,Nat.reduceLeDiff,nilCmp,putAt,Int.reduceEq,Int.reduceLT,Int.reduceLE,Int.reduceBEq,Int.reduceBNe,Int.reduceAdd,Int.reduceNeg,Int.reduceSub,Int.reduceMul,h1,h2,h3,h4,h5,h6]
 | false=>simp (disch:=omega) only[evA,argsV,argsOK,partsV,elemsV,optV,evOper,evOp,evAppend,IArg.eval,AS.putD,↓reduceIte,Nat.reduceEqDiff,Option.isSome,Option.isNone,cond_true,cond_false,Nat.reduceBEq,Nat.reduceAdd,Nat.reduceMul,binInt,binStr,eq_self,reduceCtorEq,unAV,lenAV,convAV,sliceAV,bound,isCon,AS.spent,liveAddr,offAddr,elemsOf,Nat.reduceLeDiff,nilCmp,putAt,Int.reduceEq,Int.reduceLT,Int.reduceLE,Int.reduceBEq,Int.reduceBNe,Int.reduceAdd,Int.reduceNeg,Int.reduceSub,Int.reduceMul,h1,h2,h3,h4,h5,h6]
def usualAt (l:List Str) (i:Nat):Str:=if 1≤i∧i<l.length∧tightB (l.getD (i-1) []) (l.getD i [])=false then [32] else []
def usual (l:List Str):List Str:=(List.range (l.length+1)).map (usualAt l)
def part (l:List Str) (i:Nat):List AV:=(List.range (l.length+1)).map fun j=>AV.str (if j<i then usualAt l j else [])
theorem part_len (l:List Str) (i:Nat):(part l i).length=l.length+1:=by simp[part]
theorem part_end (l:List Str) (i:Nat) (h:l.length≤i):part l i=(usual l).map .str:=by
 simp only[part,usual,List.map_map]
 refine List.map_congr_left fun j hj=>?_
 simp only[List.mem_range] at hj
 simp only[Function.comp]
 by_cases hji:j<i
 ·rw[if_pos hji]
 ·rw[if_neg hji]
  have:j=l.length:=by omega
  simp[usualAt,this]
theorem part_zero (l:List Str):(List.replicate (l.length+1) [AV.str []]).flatten=part l 1:=by
 refine List.ext_getElem? fun j=>?_
 have e:(List.replicate (l.length+1) [AV.str []]).flatten=List.replicate (l.length+1) (AV.str []):=by
  generalize l.length+1=n
  induction n with
  | zero=>rfl
  | succ n ih=>rw[List.replicate_succ,List.flatten_cons,ih,List.replicate_succ];rfl
 rw[e,List.getElem?_replicate]
 simp only[part,List.getElem?_map]
 by_cases hj:j<l.length+1
 ·rw[if_pos hj,List.getElem?_range hj]
  simp only[Option.map_some,Option.some.injEq,AV.str.injEq]
  split
  ·have:j=0:=by omega
   subst this;simp[usualAt]
  ·rfl
 ·rw[if_neg hj,List.getElem?_eq_none (by simpa using Nat.le_of_not_lt hj)];rfl
theorem part_put (l:List Str) (i:Nat) (h1:1≤i) (h:i<l.length) (ht:tightB (l.getD (i-1) []) (l.getD i [])=false):(part l i).take i++([AV.str [32]]++(part l i).drop (i+1))=part l (i+1):=by
 refine List.ext_getElem? fun j=>?_
 have hp:(part l i).length=l.length+1:=part_len l i
 rw[List.getElem?_append]
 simp only[List.length_take,hp,show min i (l.length+1)=i by omega]
 split
 ·rename_i hj
  rw[List.getElem?_take,if_pos hj]
  simp only[part,List.getElem?_map,List.getElem?_range (show j<l.length+1 by omega),Option.map_some]
  rw[if_pos hj,if_pos (by omega)]
 ·rename_i hj
  by_cases hji:j=i
  ·subst hji
   simp only[Nat.sub_self,part,List.getElem?_map,List.getElem?_range (show j<l.length+1 by omega),Option.map_some]
   rw[if_pos (by omega)]
   rw[usualAt,if_pos ⟨h1,h,ht⟩];rfl
  ·rw[List.getElem?_append_right (by simp;omega),List.getElem?_drop]
   simp only[List.length_cons,List.length_nil]
   rw[show i+1+(j-i-(0+1))=j by omega]
   simp only[part,List.getElem?_map]
   by_cases hj2:j<l.length+1
   ·rw[List.getElem?_range hj2]
    simp only[Option.map_some]
    rw[if_neg (by omega),if_neg (by omega)]
   ·rw[List.getElem?_eq_none (by simpa using Nat.le_of_not_lt hj2)];rfl
theorem part_skip (l:List Str) (i:Nat) (ht:usualAt l i=[]):part l i=part l (i+1):=by
 simp only[part]
 refine List.map_congr_left fun j hj=>?_
 by_cases hji:j<i
 ·rw[if_pos hji,if_pos (by omega)]
 ·rw[if_neg hji]
  by_cases h2:j=i
  ·subst h2;rw[if_pos (by omega),ht]
  ·rw[if_neg (by omega)]
end Go.Proofs.YtaedakihpnghjaaGreatDoor
end
section
set_option maxRecDepth 100000
namespace Go.Proofs.YtaedakihpnghjaaGreatDoor
open Go Go.Abs Go.Proofs
theorem fns_ok (f:FuncId) (ifn:IFunc) (h:fns f=some ifn):∃ fn takes locals muts,Tryz.prog.funcs[f]?=some fn∧compF Tryz.prog takes locals muts fn=some ifn:=by
 unfold fns at h
 split at h
 ·injection h with h;subst h;exact⟨_,_,_,_,Tryz.func3,ir3_ok⟩
 ·injection h with h;subst h;exact⟨_,_,_,_,Tryz.func4,ir4_ok⟩
 ·injection h with h;subst h;exact⟨_,_,_,_,Tryz.func5,ir5_ok⟩
 ·injection h with h;subst h;exact⟨_,_,_,_,Tryz.func6,ir6_ok⟩
 ·injection h with h;subst h;exact⟨_,_,_,_,Tryz.func7,ir7_ok⟩
 ·injection h with h;subst h;exact⟨_,_,_,_,Tryz.func8,ir8_ok⟩
 ·injection h with h;subst h;exact⟨_,_,_,_,Tryz.func9,ir9_ok⟩
 ·injection h with h;subst h;exact⟨_,_,_,_,Tryz.func10,ir10_ok⟩
 ·injection h with h;subst h;exact⟨_,_,_,_,Tryz.func11,ir11_ok⟩
 ·injection h with h;subst h;exact⟨_,_,_,_,Tryz.func12,ir12_ok⟩
 ·injection h with h;subst h;exact⟨_,_,_,_,Tryz.func13,ir13_ok⟩
 ·injection h with h;subst h;exact⟨_,_,_,_,Tryz.func14,ir14_ok⟩
 ·injection h with h;subst h;exact⟨_,_,_,_,Tryz.func15,ir15_ok⟩
 ·injection h with h;subst h;exact⟨_,_,_,_,Tryz.func16,ir16_ok⟩
 ·injection h with h;subst h;exact⟨_,_,_,_,Tryz.func17,ir17_ok⟩
 ·injection h with h;subst h;exact⟨_,_,_,_,Tryz.func18,ir18_ok⟩
 ·injection h with h;subst h;exact⟨_,_,_,_,Tryz.func19,ir19_ok⟩
 ·injection h with h;subst h;exact⟨_,_,_,_,Tryz.func20,ir20_ok⟩
 ·injection h with h;subst h;exact⟨_,_,_,_,Tryz.func21,ir21_ok⟩
 ·injection h with h;subst h;exact⟨_,_,_,_,Tryz.func22,ir22_ok⟩
 ·injection h with h;subst h;exact⟨_,_,_,_,Tryz.func23,ir23_ok⟩
 ·injection h with h;subst h;exact⟨_,_,_,_,Tryz.func24,ir24_ok⟩
 ·injection h with h;subst h;exact⟨_,_,_,_,Tryz.func25,ir25_ok⟩
 ·injection h with h;subst h;exact⟨_,_,_,_,Tryz.func26,ir26_ok⟩
 ·injection h with h;subst h;exact⟨_,_,_,_,Tryz.func27,ir27_ok⟩
 ·injection h with h;subst h;exact⟨_,_,_,_,Tryz.func28,ir28_ok⟩
 ·injection h with h;subst h;exact⟨_,_,_,_,Tryz.func29,ir29_ok⟩
 ·injection h with h;subst h;exact⟨_,_,_,_,Tryz.func30,ir30_ok⟩
 ·injection h with h;subst h;exact⟨_,_,_,_,Tryz.func31,ir31_ok⟩
 ·injection h with h;subst h;exact⟨_,_,_,_,Tryz.func32,ir32_ok⟩
 ·injection h with h;subst h;exact⟨_,_,_,_,Tryz.func33,ir33_ok⟩
 ·injection h with h;subst h;exact⟨_,_,_,_,Tryz.func34,ir34_ok⟩
 ·injection h with h;subst h;exact⟨_,_,_,_,Tryz.func35,ir35_ok⟩
 ·injection h with h;subst h;exact⟨_,_,_,_,Tryz.func36,ir36_ok⟩
 ·injection h with h;subst h;exact⟨_,_,_,_,Tryz.func37,ir37_ok⟩
 ·injection h with h;subst h;exact⟨_,_,_,_,Tryz.func38,ir38_ok⟩
 ·injection h with h;subst h;exact⟨_,_,_,_,Tryz.func39,ir39_ok⟩
 ·injection h with h;subst h;exact⟨_,_,_,_,Tryz.func40,ir40_ok⟩
 ·injection h with h;subst h;exact⟨_,_,_,_,Tryz.func42,ir42_ok⟩
 ·injection h with h;subst h;exact⟨_,_,_,_,Tryz.func43,ir43_ok⟩
 ·injection h with h;subst h;exact⟨_,_,_,_,Tryz.func44,ir44_ok⟩
 ·injection h with h;subst h;exact⟨_,_,_,_,Tryz.func45,ir45_ok⟩
 ·injection h with h;subst h;exact⟨_,_,_,_,Tryz.func46,ir46_ok⟩
 ·injection h with h;subst h;exact⟨_,_,_,_,Tryz.func48,ir48_ok⟩
 ·injection h with h;subst h;exact⟨_,_,_,_,Tryz.func49,ir49_ok⟩
 ·injection h with h;subst h;exact⟨_,_,_,_,Tryz.func51,ir51_ok⟩
 ·injection h with h;subst h;exact⟨_,_,_,_,Tryz.func52,ir52_ok⟩
 ·injection h with h;subst h;exact⟨_,_,_,_,Tryz.func53,ir53_ok⟩
 ·injection h with h;subst h;exact⟨_,_,_,_,Tryz.func54,ir54_ok⟩
 ·injection h with h;subst h;exact⟨_,_,_,_,Tryz.func55,ir55_ok⟩
 ·injection h with h;subst h;exact⟨_,_,_,_,Tryz.func57,ir57_ok⟩
 ·injection h with h;subst h;exact⟨_,_,_,_,Tryz.func58,ir58_ok⟩
 ·injection h with h;subst h;exact⟨_,_,_,_,Tryz.func59,ir59_ok⟩
 ·injection h with h;subst h;exact⟨_,_,_,_,Tryz.func61,ir61_ok⟩
 ·injection h with h;subst h;exact⟨_,_,_,_,Tryz.func62,ir62_ok⟩
 ·injection h with h;subst h;exact⟨_,_,_,_,Tryz.func64,ir64_ok⟩
 ·injection h with h;subst h;exact⟨_,_,_,_,Tryz.func68,ir68_ok⟩
 ·injection h with h;subst h;exact⟨_,_,_,_,Tryz.func69,ir69_ok⟩
 ·injection h with h;subst h;exact⟨_,_,_,_,Tryz.func80,ir80_ok⟩
 ·injection h with h;subst h;exact⟨_,_,_,_,Tryz.func82,ir82_ok⟩
 ·injection h with h;subst h;exact⟨_,_,_,_,Tryz.func85,ir85_ok⟩
 ·injection h with h;subst h;exact⟨_,_,_,_,Tryz.func98,ir98_ok⟩
 ·injection h with h;subst h;exact⟨_,_,_,_,Tryz.func104,ir104_ok⟩
 ·injection h with h;subst h;exact⟨_,_,_,_,Tryz.func148,ir148_ok⟩
 ·injection h with h;subst h;exact⟨_,_,_,_,Tryz.func149,ir149_ok⟩
 ·cases h
theorem ov_ok (f:FuncId) (g:List AV→AHeap→Option (AV × Option Chg)) (h:ov f=some g):OvSound Tryz.prog tab f g:=by
 unfold ov at h
 split at h
 ·injection h with h;subst h;exact index_sound
 ·injection h with h;subst h;exact string_sound
 ·injection h with h;subst h;exact index_sound2
 ·injection h with h;subst h;exact copy_sound
 ·injection h with h;subst h;exact atoi_sound
 ·cases h
theorem progOK:ProgOK Tryz.prog A:=⟨by kernel_rfl,fns_ok,ov_ok⟩
theorem lives_ov:OvSound Tryz.prog tab 8 ovLives:=by
 have h:=evN_ov progOK 59 8
 intro args H r c he
 unfold ovLives at he
 split at he
 ·injection he with he
  injection he with e1 e2
  subst e1 e2
  exact h _ _ _ _ lives_run
 ·cases he
theorem ovB_ok (f:FuncId) (g:List AV→AHeap→Option (AV × Option Chg)) (h:B.ov f=some g):OvSound Tryz.prog tab f g:=by
 have h:ovB f=some g:=h
 unfold ovB at h
 split at h
 ·injection h with h
  subst h
  exact lives_ov
 ·cases h
theorem progOKB:ProgOK Tryz.prog B:=⟨by kernel_rfl,fns_ok,ovB_ok⟩
end Go.Proofs.YtaedakihpnghjaaGreatDoor
end
