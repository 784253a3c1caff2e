/-
  PrintNames: where one token of a generated definition is replaced by a word, with a space ahead and blanks behind, the text joined with the layout that is carried over is the old one with this token replaced, and is read back as it is; the inputs read as they did; the listed package variables read as start-up lays them.
-/
import Derived.Deep.DeepHandedRow
import Derived.Deep.DeepWitnessRowRef
import Derived.ProofKit
import Derived.Test.YtocbgffdpfiidaaGreatDoorP15
set_option linter.unusedSimpArgs false
set_option linter.unusedVariables false
set_option linter.defProp false
set_option maxRecDepth 100000
namespace Go.Proofs.YtocbgffdpfiidaaGreatDoor.printNames
open Go Go.Abs Go.Proofs Go.ChangeShapes Go.WideShapes Go.ChangeAt Go.RowKit
theorem KV(H:Type)(enc:TypeId × Value->H)(W:World)(base:Nat)(args:Array Value)(ds gs:List (DataW H))(before:List MemPlace)
  (fZ:∀ (j:Nat) t v,Tryz.f4.params[j]?=some t->args[j]?=some v->Value.okWide Tryz.prog W .any base t v)
  (hW:DataW.Whole enc Tryz.prog Tryz.f4.params.toList Rows.printNamesSpec.vars false W args.toList ds gs before) (hL:laidMetH Tryz.prog mn W) :
  Calls Tryz.prog 4 args W fun e W'=>∃ v,e=.returned v/\Rows.printNamesSpec.post enc Tryz.prog Tryz.f4 false true false false W args v W':=by
 have j6:=hW
 obtain⟨p,q,hA0,hV,rfl,hfz,HJ⟩:=hW
 have hA:DataW.TrodAll enc Tryz.prog W 0 (fun _=>true) true Tryz.f4.params.toList args.toList ds p:=hA0
 rw[Tryz.params4] at hA fZ
 obtain⟨v0,vs0,d0,ds0,p0,q0,dw,rfl,rfl,h0,r0⟩:=trodAll_cons hA
 obtain⟨v1,vs1,d1,ds1,p1,q1,rfl,rfl,rfl,h1,r1⟩:=trodAll_cons r0
 obtain⟨v2,vs2,d2,ds2,p2,q2,rfl,rfl,rfl,h2,r2⟩:=trodAll_cons r1
 obtain⟨rfl,rfl,rfl⟩:=trodAll_nil r2
 obtain rfl:args=#[v0,v1,v2]:=by cases args;simp_all
 have hV0:=hV
 obtain⟨rfl,rfl⟩:=trodVars_none hV
 obtain⟨l0,t0,e0,b0,x0⟩:=KH (show Tryz.prog.underlying 22=some (.slice 3) by kernel_rfl) (show Tryz.prog.underlying 3=some (.int .i64) by kernel_rfl) (by kernel_rfl) (fZ 0 _ _ rfl rfl) h0
 obtain⟨l1,e1,b1,x1⟩:=Hk (show Tryz.prog.underlying 3=some (.int .i64) by kernel_rfl) (fZ 1 _ _ rfl rfl) h1
 obtain⟨l2,e2,b2,x2⟩:=Hk (show Tryz.prog.underlying 3=some (.int .i64) by kernel_rfl) (fZ 2 _ _ rfl rfl) h2
 have hr:=SB S7 (S0 l0 l1 l2 b0 b1 b2) (afa hL) (vs:=#[v0,v1,v2]) rfl (by
  intro j v x hv hx
  match j with
  | 0=>cases hv;cases hx;exact x0
  | 1=>cases hv;cases hx;exact x1
  | 2=>cases hv;cases hx;exact x2
  | j+3=>simp at hv)
 refine hr.mono fun e W' ⟨he,Wi⟩=>⟨_,he,?_⟩
 exact Of (by kernel_rfl) j6 Wi rfl (by kernel_rfl) (by kernel_rfl) (show Tryz.prog.underlying 4=some .bool by kernel_rfl) rfl rfl rfl
theorem Oe(os:Os)(args:Array Value):laidMetH Tryz.prog mn ((World.doorLaid Tryz.prog 149 os).forCall (fun _ _=>0) ⟨#[],args,[]⟩).memory :=
 laidMetH_of_parts3 (fuel:=8) (laidMet_of_run' 8 (by kernel_rfl) (by kernel_rfl)) (by kernel_rfl) (by kernel_rfl)
theorem reads(os:Os){H:Type}(enc:TypeId × Value->H):∃ places,DataW.whole enc Tryz.prog ((World.doorLaid Tryz.prog 149 os).forCall (fun _ _=>0) ⟨#[],#[.slice none 0 0,.int .i64 0,.int .i64 0],[]⟩).memory Tryz.f4.params.toList Rows.printNamesSpec.vars false #[Value.slice none 0 0,.int .i64 0,.int .i64 0].toList 8=some ([.nil,.lit (.int .i64 0),.lit (.int .i64 0)],[],places) :=
 ⟨[],by kernel_rfl⟩
theorem lifted(os:Os)(started:os.Started)(H:Type)(enc:TypeId × Value->H)(F:Stop.Interp) :
  ReturnsInHanded {} Tryz.checked os 4 .any ((OpenSpec.ofChange Rows.printNamesSpec).preRow enc Tryz.prog Tryz.f4 Rows.printNamesRow.domain false Rows.printNamesRow.laid) (((OpenSpec.ofChange Rows.printNamesSpec).at F).post enc Tryz.prog Tryz.f4 false true false false):=by
 obtain⟨places,hx⟩:=reads os enc
 refine returnsInHanded_of_row (C:=Tryz.checked) (s:=OpenSpec.ofChange Rows.printNamesSpec) (by kernel_rfl) started (by kernel_rfl) Tryz.func4
  (witness_row_atRef (enc:=enc) (C:=Tryz.checked) false (World.doorLaid Tryz.prog 149 os) #[.slice none 0 0,.int .i64 0,.int .i64 0] rfl (by kernel_rfl) (by kernel_rfl) (by kernel_rfl)
   (OpenSpec.preRow_of_cond 8 hx (by kernel_rfl) (fun k hk=>by cases hk) (by kernel_rfl) (Oe os _))) ?_
 intro W base args ds gs before fZ hW _ hc _ hL _ _
 exact KV H enc W base args ds gs before fZ hW hL
theorem said:Rows.PrintNamesSaid :=
 OpenClaim.holds_of_cond 4 Tryz.f4 rfl rfl rfl rfl rfl rfl rfl ⟨rfl,rfl,rfl,rfl,rfl⟩ rfl rfl rfl rfl rfl (by kernel_rfl) Tryz.func4 (by kernel_rfl)
  (of_decide_eq_true (by kernel_rfl)) (by unfold Func.isWrapper;first|(rw[if_pos (by decide +kernel)];kernel_rfl)|(rw[if_neg (by decide +kernel)];exact⟨rfl,rfl⟩))
  (fun os started H enc _ F=>by rw[OpenClaim.pre_eq_preRow];exact lifted os started H enc F)
theorem plain(f:FuncId)(fn:Func)(hf:Tryz.pinned.checked.prog.funcNamed "splicery/splicerylaw07.PrintNames"=some f)(F5:Tryz.pinned.checked.prog.funcs[f]?=some fn) :
  true=Tryz.pinned.checked.prog.looks []/\∀ (j:Nat) t,fn.params[j]?=some t->Tryz.pinned.checked.prog.wantsStandIn t=false:=by
 obtain rfl:f=4:=ajI ((show Tryz.prog.funcNamed "splicery/splicerylaw07.PrintNames"=some 4 by kernel_rfl).symm.trans hf) |>.symm
 obtain rfl:fn=Tryz.f4:=(ajI (Tryz.func4.symm.trans F5)).symm
 refine⟨by kernel_rfl,fun j t ht=>?_⟩
 rw[Tryz.params4] at ht
 have hm:t∈[22,3,3]:=by simpa using akE ht
 have fg:([22,3,3].all fun u=>!Tryz.prog.wantsStandIn u)=true:=by kernel_rfl
 exact (show Tryz.prog.wantsStandIn t=false by simpa using aiO.1 fg t hm)
theorem card:Rows.PrintNamesCardSaid :=
 Claim7.holds_tied_plain_at .later [] _ _ _ _ said (fun _ h=>by cases h) (by kernel_rfl) (fun _ h=>by cases h) printNames_row_tie rfl ⟨rfl,rfl⟩ (by kernel_rfl) rfl plain (by kernel_rfl)
end Go.Proofs.YtocbgffdpfiidaaGreatDoor.printNames
