/-
  SyntaxLossless: for all texts of the generated sources with a token changed, where syntax.Parse falls at a token that is no opening parenthesis, the text up to the end of this token is not read with any of the continuations; the arguments hold together at most 1048576 values and letters; the inputs read as they did; the listed package variables read as start-up lays them.
-/
import Derived.Deep.DeepHandedRow
import Derived.Deep.DeepWitnessRowRef
import Derived.ProofKit
import Derived.Test.YtkoebdjmmgckdaaGreatDoorQ18
set_option linter.unusedSimpArgs false
set_option linter.unusedVariables false
set_option linter.defProp false
set_option maxRecDepth 100000
namespace Go.Proofs.YtkoebdjmmgckdaaGreatDoor.syntaxLossless
open Go Go.Abs Go.Proofs Go.ChangeShapes Go.WideShapes Go.ChangeAt Go.RowKit
def T7(H:Type)(enc:TypeId × Value->H)(W:World)(base:Nat)(args:Array Value)(ds gs:List (DataW H))(before:List MemPlace)
  (jn:∀ (j:Nat) t v,Tryz.f3.params[j]?=some t->args[j]?=some v->Value.okWide Tryz.prog W .any base t v)
  (hW:DataW.Whole enc Tryz.prog Tryz.f3.params.toList Rows.syntaxLosslessSpec.vars false W args.toList ds gs before) (hL:laidMetH Tryz.prog qP W) :
  Calls Tryz.prog 3 args W fun e W'=>∃ v,e=.returned v/\Rows.syntaxLosslessSpec.post enc Tryz.prog Tryz.f3 false true false false W args v W':=by
 have n9:=hW;obtain⟨p,q,hA0,hV,rfl,hfz,RO⟩:=hW;have hA:DataW.TrodAll enc Tryz.prog W 0 (fun _=>true) true Tryz.f3.params.toList args.toList ds p:=hA0
 rw[Tryz.params3] at hA jn;obtain⟨v0,vs0,d0,ds0,p0,q0,fL,rfl,rfl,h0,r0⟩:=trodAll_cons hA;obtain⟨v1,vs1,d1,ds1,p1,q1,rfl,rfl,rfl,h1,r1⟩:=trodAll_cons r0;obtain⟨v2,vs2,d2,ds2,p2,q2,rfl,rfl,rfl,h2,r2⟩:=trodAll_cons r1;obtain⟨v3,vs3,d3,ds3,p3,q3,rfl,rfl,rfl,h3,r3⟩:=trodAll_cons r2;obtain⟨rfl,rfl,rfl⟩:=trodAll_nil r3;obtain rfl:args=#[v0,v1,v2,v3]:=by cases args;simp_all
 have hV0:=hV;obtain⟨rfl,rfl⟩:=trodVars_none hV;obtain⟨l0,t0,e0,b0,x0⟩:=TH (show Tryz.prog.underlying 22=some (.slice 3) by kernel_rfl) (show Tryz.prog.underlying 3=some (.int .i64) by kernel_rfl) (by kernel_rfl) (jn 0 _ _ rfl rfl) h0
 obtain⟨l1,e1,b1,x1⟩:=Ia (show Tryz.prog.underlying 3=some (.int .i64) by kernel_rfl) (jn 1 _ _ rfl rfl) h1
 obtain⟨l2,e2,b2,x2⟩:=Ia (show Tryz.prog.underlying 3=some (.int .i64) by kernel_rfl) (jn 2 _ _ rfl rfl) h2
 obtain⟨l3,e3,b3,x3⟩:=Ia (show Tryz.prog.underlying 3=some (.int .i64) by kernel_rfl) (jn 3 _ _ rfl rfl) h3
 have hr:=aak aaM (alU l0 l1 l2 l3 b0 b1 b2 b3) (aro hL) (vs:=#[v0,v1,v2,v3]) rfl (by
  intro j v x hv hx
  match j with
  | 0=>cases hv;cases hx;exact x0
  | 1=>cases hv;cases hx;exact x1
  | 2=>cases hv;cases hx;exact x2
  | 3=>cases hv;cases hx;exact x3
  | j+4=>simp at hv)
 refine hr.mono fun e W' ⟨he,ae8⟩=>⟨_,he,?_⟩
 exact V' (by kernel_rfl) n9 ae8 rfl (by kernel_rfl) (by kernel_rfl) (show Tryz.prog.underlying 4=some .bool by kernel_rfl) rfl rfl rfl
def V9(os:Os)(args:Array Value):laidMetH Tryz.prog qP ((World.doorLaid Tryz.prog 149 os).forCall (fun _ _=>0) ⟨#[],args,[]⟩).memory :=
 laidMetH_of_parts3 (fuel:=8) (laidMet_of_run' 8 (by kernel_rfl) (by kernel_rfl)) (by kernel_rfl) (by kernel_rfl)
theorem reads(os:Os){H:Type}(enc:TypeId × Value->H):∃ places,DataW.whole enc Tryz.prog ((World.doorLaid Tryz.prog 149 os).forCall (fun _ _=>0) ⟨#[],#[.slice none 0 0,.int .i64 0,.int .i64 0,.int .i64 0],[]⟩).memory Tryz.f3.params.toList Rows.syntaxLosslessSpec.vars false #[Value.slice none 0 0,.int .i64 0,.int .i64 0,.int .i64 0].toList 8=some ([.nil,.lit (.int .i64 0),.lit (.int .i64 0),.lit (.int .i64 0)],[],places) :=
 ⟨[],by kernel_rfl⟩
theorem lifted(os:Os)(started:os.Started)(H:Type)(enc:TypeId × Value->H)(F:Stop.Interp) :
  ReturnsInHanded {} Tryz.checked os 3 .any ((OpenSpec.ofChange Rows.syntaxLosslessSpec).preRow enc Tryz.prog Tryz.f3 Rows.syntaxLosslessRow.domain false Rows.syntaxLosslessRow.laid) (((OpenSpec.ofChange Rows.syntaxLosslessSpec).at F).post enc Tryz.prog Tryz.f3 false true false false):=by
 obtain⟨places,hx⟩:=reads os enc;refine returnsInHanded_of_row (C:=Tryz.checked) (s:=OpenSpec.ofChange Rows.syntaxLosslessSpec) (by kernel_rfl) started (by kernel_rfl) Tryz.func3
  (witness_row_atRef (enc:=enc) (C:=Tryz.checked) false (World.doorLaid Tryz.prog 149 os) #[.slice none 0 0,.int .i64 0,.int .i64 0,.int .i64 0] rfl (by kernel_rfl) (by kernel_rfl) (by kernel_rfl)
   (OpenSpec.preRow_of_cond 8 hx (by kernel_rfl) (fun k hk=>by cases hk) (by kernel_rfl) (V9 os _))) ?_
 intro W base args ds gs before jn hW _ hc _ hL _ _;exact T7 H enc W base args ds gs before jn hW hL
theorem said:Rows.SyntaxLosslessSaid :=
 OpenClaim.holds_of_cond 3 Tryz.f3 rfl rfl rfl rfl rfl rfl rfl ⟨rfl,rfl,rfl,rfl,rfl⟩ rfl rfl rfl rfl rfl (by kernel_rfl) Tryz.func3 (by kernel_rfl)
  (of_decide_eq_true (by kernel_rfl)) (by unfold Func.isWrapper;first|(rw[if_pos (by decide +kernel)];kernel_rfl)|(rw[if_neg (by decide +kernel)];exact⟨rfl,rfl⟩))
  (fun os started H enc _ F=>by rw[OpenClaim.pre_eq_preRow];exact lifted os started H enc F)
theorem plain(f:FuncId)(fn:Func)(hf:Tryz.pinned.checked.prog.funcNamed "splicery/splicerylaw06.SyntaxLossless"=some f)(JJ:Tryz.pinned.checked.prog.funcs[f]?=some fn) :
  true=Tryz.pinned.checked.prog.looks []/\∀ (j:Nat) t,fn.params[j]?=some t->Tryz.pinned.checked.prog.wantsStandIn t=false:=by
 obtain rfl:f=3:=axS ((show Tryz.prog.funcNamed "splicery/splicerylaw06.SyntaxLossless"=some 3 by kernel_rfl).symm.trans hf) |>.symm
 obtain rfl:fn=Tryz.f3:=(axS (Tryz.func3.symm.trans JJ)).symm;refine⟨by kernel_rfl,fun j t ht=>?_⟩
 rw[Tryz.params3] at ht;have hm:t∈[22,3,3,3]:=by simpa using ayX ht
 have dQ:([22,3,3,3].all fun u=>!Tryz.prog.wantsStandIn u)=true:=by kernel_rfl
 exact (show Tryz.prog.wantsStandIn t=false by simpa using aw8.1 dQ t hm)
theorem card:Rows.SyntaxLosslessCardSaid :=
 Claim7.holds_tied_plain_at .later [] _ _ _ _ said (fun _ h=>by cases h) (by kernel_rfl) (fun _ h=>by cases h) syntaxLossless_row_tie rfl ⟨rfl,rfl⟩ (by kernel_rfl) rfl plain (by kernel_rfl)
end Go.Proofs.YtkoebdjmmgckdaaGreatDoor.syntaxLossless
