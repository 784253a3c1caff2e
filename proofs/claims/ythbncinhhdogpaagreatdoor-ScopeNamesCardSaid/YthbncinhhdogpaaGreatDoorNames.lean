/-
  ScopeNames: for all programs of the generator, spoilt ones as well, a name that Name of the package gives stands for this definition alone, and a definition without a name is not seen or shares its name; the inputs read as they did; the listed package variables read as start-up lays them.
-/
import Derived.Deep.DeepHandedRow
import Derived.Deep.DeepWitnessRowRef
import Derived.ProofKit
import Derived.Test.YthbncinhhdogpaaGreatDoorP15
set_option linter.unusedSimpArgs false
set_option linter.unusedVariables false
set_option linter.defProp false
set_option maxRecDepth 100000
namespace Go.Proofs.YthbncinhhdogpaaGreatDoor.scopeNames
open Go Go.Abs Go.Proofs Go.ChangeShapes Go.WideShapes Go.ChangeAt Go.RowKit
theorem Om(H:Type)(enc:TypeId × Value->H)(W:World)(base:Nat)(args:Array Value)(ds gs:List (DataW H))(before:List MemPlace)
  (gE:∀ (j:Nat) t v,Tryz.f4.params[j]?=some t->args[j]?=some v->Value.okWide Tryz.prog W .any base t v)
  (hW:DataW.Whole enc Tryz.prog Tryz.f4.params.toList Rows.scopeNamesSpec.vars false W args.toList ds gs before) (hL:laidMetH Tryz.prog rU W) :
  Calls Tryz.prog 4 args W fun e W'=>∃ v,e=.returned v/\Rows.scopeNamesSpec.post enc Tryz.prog Tryz.f4 false true false false W args v W':=by
 have kR:=hW
 obtain⟨p,q,hA0,hV,rfl,hfz,nP⟩:=hW
 have hA:DataW.TrodAll enc Tryz.prog W 0 (fun _=>true) true Tryz.f4.params.toList args.toList ds p:=hA0
 rw[Tryz.params4] at hA gE
 obtain⟨v0,vs0,d0,ds0,p0,q0,dy,rfl,rfl,h0,r0⟩:=trodAll_cons hA
 obtain⟨v1,vs1,d1,ds1,p1,q1,rfl,rfl,rfl,h1,r1⟩:=trodAll_cons r0
 obtain⟨v2,vs2,d2,ds2,p2,q2,rfl,rfl,rfl,h2,r2⟩:=trodAll_cons r1
 obtain⟨rfl,rfl,rfl⟩:=trodAll_nil r2
 obtain rfl:args=#[v0,v1,v2]:=by cases args;simp_all
 have hV0:=hV
 obtain⟨rfl,rfl⟩:=trodVars_none hV
 obtain⟨l0,t0,e0,b0,x0⟩:=DC (show Tryz.prog.underlying 22=some (.slice 3) by kernel_rfl) (show Tryz.prog.underlying 3=some (.int .i64) by kernel_rfl) (by kernel_rfl) (gE 0 _ _ rfl rfl) h0
 obtain⟨l1,t1,e1,b1,x1⟩:=DC (show Tryz.prog.underlying 22=some (.slice 3) by kernel_rfl) (show Tryz.prog.underlying 3=some (.int .i64) by kernel_rfl) (by kernel_rfl) (gE 1 _ _ rfl rfl) h1
 obtain⟨l2,e2,b2,x2⟩:=TJ (show Tryz.prog.underlying 3=some (.int .i64) by kernel_rfl) (gE 2 _ _ rfl rfl) h2
 have hr:=Wv W9 (abV l0 l1 l2 b0 b1) (akk hL) (vs:=#[v0,v1,v2]) rfl (by
  intro j v x hv hx
  match j with
  | 0=>cases hv;cases hx;exact x0
  | 1=>cases hv;cases hx;exact x1
  | 2=>cases hv;cases hx;exact x2
  | j+3=>simp at hv)
 refine hr.mono fun e W' ⟨he,aaf⟩=>⟨_,he,?_⟩
 exact R8 (by kernel_rfl) kR aaf rfl (by kernel_rfl) (by kernel_rfl) (show Tryz.prog.underlying 4=some .bool by kernel_rfl) rfl rfl rfl
theorem R7(os:Os)(args:Array Value):laidMetH Tryz.prog rU ((World.doorLaid Tryz.prog 111 os).forCall (fun _ _=>0) ⟨#[],args,[]⟩).memory :=
 laidMetH_of_parts3 (fuel:=8) (laidMet_of_run' 8 (by kernel_rfl) (by kernel_rfl)) (by kernel_rfl) (by kernel_rfl)
theorem reads(os:Os){H:Type}(enc:TypeId × Value->H):∃ places,DataW.whole enc Tryz.prog ((World.doorLaid Tryz.prog 111 os).forCall (fun _ _=>0) ⟨#[],#[.slice none 0 0,.slice none 0 0,.int .i64 0],[]⟩).memory Tryz.f4.params.toList Rows.scopeNamesSpec.vars false #[Value.slice none 0 0,.slice none 0 0,.int .i64 0].toList 8=some ([.nil,.nil,.lit (.int .i64 0)],[],places) :=
 ⟨[],by kernel_rfl⟩
theorem lifted(os:Os)(started:os.Started)(H:Type)(enc:TypeId × Value->H)(F:Stop.Interp) :
  ReturnsInHanded {} Tryz.checked os 4 .any ((OpenSpec.ofChange Rows.scopeNamesSpec).preRow enc Tryz.prog Tryz.f4 Rows.scopeNamesRow.domain false Rows.scopeNamesRow.laid) (((OpenSpec.ofChange Rows.scopeNamesSpec).at F).post enc Tryz.prog Tryz.f4 false true false false):=by
 obtain⟨places,hx⟩:=reads os enc
 refine returnsInHanded_of_row (C:=Tryz.checked) (s:=OpenSpec.ofChange Rows.scopeNamesSpec) (by kernel_rfl) started (by kernel_rfl) Tryz.func4
  (witness_row_atRef (enc:=enc) (C:=Tryz.checked) false (World.doorLaid Tryz.prog 111 os) #[.slice none 0 0,.slice none 0 0,.int .i64 0] rfl (by kernel_rfl) (by kernel_rfl) (by kernel_rfl)
   (OpenSpec.preRow_of_cond 8 hx (by kernel_rfl) (fun k hk=>by cases hk) (by kernel_rfl) (R7 os _))) ?_
 intro W base args ds gs before gE hW _ hc _ hL _ _
 exact Om H enc W base args ds gs before gE hW hL
theorem said:Rows.ScopeNamesSaid :=
 OpenClaim.holds_of_cond 4 Tryz.f4 rfl rfl rfl rfl rfl rfl rfl ⟨rfl,rfl,rfl,rfl,rfl⟩ rfl rfl rfl rfl rfl (by kernel_rfl) Tryz.func4 (by kernel_rfl)
  (of_decide_eq_true (by kernel_rfl)) (by unfold Func.isWrapper;first|(rw[if_pos (by decide +kernel)];kernel_rfl)|(rw[if_neg (by decide +kernel)];exact⟨rfl,rfl⟩))
  (fun os started H enc _ F=>by rw[OpenClaim.pre_eq_preRow];exact lifted os started H enc F)
theorem plain(f:FuncId)(fn:Func)(hf:Tryz.pinned.checked.prog.funcNamed "splicery/splicerylaw08.ScopeNames"=some f)(sq:Tryz.pinned.checked.prog.funcs[f]?=some fn) :
  false=Tryz.pinned.checked.prog.looks []/\∀ (j:Nat) t,fn.params[j]?=some t->Tryz.pinned.checked.prog.wantsStandIn t=false:=by
 obtain rfl:f=4:=apA ((show Tryz.prog.funcNamed "splicery/splicerylaw08.ScopeNames"=some 4 by kernel_rfl).symm.trans hf) |>.symm
 obtain rfl:fn=Tryz.f4:=(apA (Tryz.func4.symm.trans sq)).symm
 refine⟨by kernel_rfl,fun j t ht=>?_⟩
 rw[Tryz.params4] at ht
 have hm:t∈[22,22,3]:=by simpa using aqN ht
 have dq:([22,22,3].all fun u=>!Tryz.prog.wantsStandIn u)=true:=by kernel_rfl
 exact (show Tryz.prog.wantsStandIn t=false by simpa using aoV.1 dq t hm)
theorem card:Rows.ScopeNamesCardSaid :=
 Claim7.holds_tied_plain_at .later [] _ _ _ _ said (fun _ h=>by cases h) (by kernel_rfl) (fun _ h=>by cases h) scopeNames_row_tie rfl ⟨rfl,rfl⟩ (by kernel_rfl) rfl plain (by kernel_rfl)
end Go.Proofs.YthbncinhhdogpaaGreatDoor.scopeNames
