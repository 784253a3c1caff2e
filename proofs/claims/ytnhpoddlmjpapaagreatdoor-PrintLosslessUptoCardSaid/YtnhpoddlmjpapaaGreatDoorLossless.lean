/-
  PrintLossless: for all texts of the generated sources, with one or two tokens changed, and for any text behind a head, what print.Module writes of what syntax.Parse reads is the text again; the arguments hold together at most 1048576 values and letters; the inputs read as they did; the listed package variables read as start-up lays them.
-/
import Derived.Deep.DeepHandedRow
import Derived.Deep.DeepWitnessRowRef
import Derived.ProofKit
import Derived.Test.YtnhpoddlmjpapaaGreatDoorQ18
set_option linter.unusedSimpArgs false
set_option linter.unusedVariables false
set_option linter.defProp false
set_option maxRecDepth 100000
namespace Go.Proofs.YtnhpoddlmjpapaaGreatDoor.printLossless
open Go Go.Abs Go.Proofs Go.ChangeShapes Go.WideShapes Go.ChangeAt Go.RowKit
def SD(H:Type)(enc:TypeId × Value->H)(W:World)(base:Nat)(args:Array Value)(ds gs:List (DataW H))(before:List MemPlace)
  (iQ:∀ (j:Nat) t v,Tryz.f3.params[j]?=some t->args[j]?=some v->Value.okWide Tryz.prog W .any base t v)
  (hW:DataW.Whole enc Tryz.prog Tryz.f3.params.toList Rows.printLosslessSpec.vars false W args.toList ds gs before) (hk:Rows.uptoSmall H (ds++gs)=true) (hL:laidMetH Tryz.prog qt W) :
  Calls Tryz.prog 3 args W fun e W'=>∃ v,e=.returned v/\Rows.printLosslessSpec.post enc Tryz.prog Tryz.f3 false true false false W args v W':=by
 have nL:=hW;obtain⟨p,q,hA0,hV,rfl,hfz,Qt⟩:=hW;have hA:DataW.TrodAll enc Tryz.prog W 0 (fun _=>true) true Tryz.f3.params.toList args.toList ds p:=hA0
 rw[Tryz.params3] at hA iQ;obtain⟨v0,vs0,d0,ds0,p0,q0,gp,rfl,rfl,h0,r0⟩:=trodAll_cons hA;obtain⟨v1,vs1,d1,ds1,p1,q1,rfl,rfl,rfl,h1,r1⟩:=trodAll_cons r0;obtain⟨v2,vs2,d2,ds2,p2,q2,rfl,rfl,rfl,h2,r2⟩:=trodAll_cons r1;obtain⟨v3,vs3,d3,ds3,p3,q3,rfl,rfl,rfl,h3,r3⟩:=trodAll_cons r2;obtain⟨v4,vs4,d4,ds4,p4,q4,rfl,rfl,rfl,h4,r4⟩:=trodAll_cons r3;obtain⟨rfl,rfl,rfl⟩:=trodAll_nil r4;obtain rfl:args=#[v0,v1,v2,v3,v4]:=by cases args;simp_all
 have hV0:=hV;obtain⟨rfl,rfl⟩:=trodVars_none hV;obtain⟨l0,t0,e0,b0,x0⟩:=Sf (show Tryz.prog.underlying 22=some (.slice 3) by kernel_rfl) (show Tryz.prog.underlying 3=some (.int .i64) by kernel_rfl) (by kernel_rfl) (iQ 0 _ _ rfl rfl) h0
 obtain⟨l1,e1,b1,x1⟩:=Hm (show Tryz.prog.underlying 3=some (.int .i64) by kernel_rfl) (iQ 1 _ _ rfl rfl) h1
 obtain⟨l2,e2,b2,x2⟩:=Hm (show Tryz.prog.underlying 3=some (.int .i64) by kernel_rfl) (iQ 2 _ _ rfl rfl) h2
 obtain⟨l3,e3,b3,x3⟩:=Hm (show Tryz.prog.underlying 3=some (.int .i64) by kernel_rfl) (iQ 3 _ _ rfl rfl) h3
 obtain⟨l4,e4,x4⟩:=LU (show Tryz.prog.underlying 9=some .string by kernel_rfl) (iQ 4 _ _ rfl rfl) h4
 have hsm:=of_decide_eq_true hk;have hm:Rows.uptoBulk d4=l4.length+1:=by rw[e4];simp[Rows.uptoBulk]
 simp only[List.append_nil,avU,Rows.uptoBulkAll] at hsm;have hr:=YB Y3 (ajA l0 l1 l2 l3 l4 b0 b1 b2 b3 (by omega)) (apb hL) (vs:=#[v0,v1,v2,v3,v4]) rfl (by
  intro j v x hv hx
  match j with
  | 0=>cases hv;cases hx;exact x0
  | 1=>cases hv;cases hx;exact x1
  | 2=>cases hv;cases hx;exact x2
  | 3=>cases hv;cases hx;exact x3
  | 4=>cases hv;cases hx;exact x4
  | j+5=>simp at hv)
 refine hr.mono fun e W' ⟨he,adf⟩=>⟨_,he,?_⟩
 exact UG (by kernel_rfl) nL adf rfl (by kernel_rfl) (by kernel_rfl) (show Tryz.prog.underlying 4=some .bool by kernel_rfl) rfl rfl rfl
def UF(os:Os)(args:Array Value):laidMetH Tryz.prog qt ((World.doorLaid Tryz.prog 149 os).forCall (fun _ _=>0) ⟨#[],args,[]⟩).memory :=
 laidMetH_of_parts3 (fuel:=8) (laidMet_of_run' 8 (by kernel_rfl) (by kernel_rfl)) (by kernel_rfl) (by kernel_rfl)
def reads(os:Os){H:Type}(enc:TypeId × Value->H):∃ places,DataW.whole enc Tryz.prog ((World.doorLaid Tryz.prog 149 os).forCall (fun _ _=>0) ⟨#[],#[.slice none 0 0,.int .i64 0,.int .i64 0,.int .i64 0,.string .empty],[]⟩).memory Tryz.f3.params.toList Rows.printLosslessSpec.vars false #[Value.slice none 0 0,.int .i64 0,.int .i64 0,.int .i64 0,.string .empty].toList 8=some ([.nil,.lit (.int .i64 0),.lit (.int .i64 0),.lit (.int .i64 0),.lit (.string [])],[],places) :=
 ⟨[],by kernel_rfl⟩
def lifted(os:Os)(started:os.Started)(H:Type)(enc:TypeId × Value->H)(F:Stop.Interp) :
  ReturnsInHanded {} Tryz.checked os 3 .any ((Rows.OpenSpec.upto Rows.printLosslessSpec).preRow enc Tryz.prog Tryz.f3 Rows.printLosslessUptoRow.domain false Rows.printLosslessUptoRow.laid) (((Rows.OpenSpec.upto Rows.printLosslessSpec).at F).post enc Tryz.prog Tryz.f3 false true false false):=by
 obtain⟨places,hx⟩:=reads os enc;refine returnsInHanded_of_row (C:=Tryz.checked) (s:=Rows.OpenSpec.upto Rows.printLosslessSpec) (by kernel_rfl) started (by kernel_rfl) Tryz.func3
  (witness_row_atRef (enc:=enc) (C:=Tryz.checked) false (World.doorLaid Tryz.prog 149 os) #[.slice none 0 0,.int .i64 0,.int .i64 0,.int .i64 0,.string .empty] rfl (by kernel_rfl) (by kernel_rfl) (by kernel_rfl)
   (OpenSpec.preRow_of_cond 8 hx (by kernel_rfl) (fun k hk=>by cases hk;kernel_rfl) (by kernel_rfl) (UF os _))) ?_
 intro W base args ds gs before iQ hW _ hc _ hL _ _;exact SD H enc W base args ds gs before iQ hW (hc _ rfl) hL
def said:Rows.PrintLosslessUptoSaid :=
 OpenClaim.holds_of_cond 3 Tryz.f3 rfl rfl rfl rfl rfl rfl rfl ⟨rfl,rfl,rfl,rfl,rfl⟩ rfl rfl rfl rfl rfl (by kernel_rfl) Tryz.func3 (by kernel_rfl)
  (of_decide_eq_true (by kernel_rfl)) (by unfold Func.isWrapper;first|(rw[if_pos (by decide +kernel)];kernel_rfl)|(rw[if_neg (by decide +kernel)];exact⟨rfl,rfl⟩))
  (fun os started H enc _ F=>by rw[OpenClaim.pre_eq_preRow];exact lifted os started H enc F)
def plain(f:FuncId)(fn:Func)(hf:Tryz.pinned.checked.prog.funcNamed "splicery/splicerylaw07.PrintLossless"=some f)(IU:Tryz.pinned.checked.prog.funcs[f]?=some fn) :
  true=Tryz.pinned.checked.prog.looks []/\∀ (j:Nat) t,fn.params[j]?=some t->Tryz.pinned.checked.prog.wantsStandIn t=false:=by
 obtain rfl:f=3:=avF ((show Tryz.prog.funcNamed "splicery/splicerylaw07.PrintLossless"=some 3 by kernel_rfl).symm.trans hf) |>.symm
 obtain rfl:fn=Tryz.f3:=(avF (Tryz.func3.symm.trans IU)).symm;refine⟨by kernel_rfl,fun j t ht=>?_⟩
 rw[Tryz.params3] at ht;have hm:t∈[22,3,3,3,9]:=by simpa using awN ht
 have fq:([22,3,3,3,9].all fun u=>!Tryz.prog.wantsStandIn u)=true:=by kernel_rfl
 exact (show Tryz.prog.wantsStandIn t=false by simpa using auX.1 fq t hm)
theorem card:Rows.PrintLosslessUptoCardSaid :=
 Claim7.holds_tied_plain_at .later [] _ _ _ _ said (fun _ h=>by cases h) (by kernel_rfl) (fun _ h=>by cases h) printLosslessUpto_row_tie rfl ⟨rfl,rfl⟩ (by kernel_rfl) rfl plain (by kernel_rfl)
end Go.Proofs.YtnhpoddlmjpapaaGreatDoor.printLossless
