/-
  SyntaxTokens: for all forms, valid ones and ones with something changed, and sources with any names, Tokens and Heads of the package list what the reference lists; the arguments hold together at most 1048576 values and letters; the inputs read as they did; the listed package variables read as start-up lays them.
-/
import Derived.Deep.DeepHandedRow
import Derived.Deep.DeepWitnessRowRef
import Derived.ProofKit
import Derived.Test.YtbdhkgiakaegdaaGreatDoorP24
set_option linter.unusedSimpArgs false
set_option linter.unusedVariables false
set_option linter.defProp false
set_option maxRecDepth 100000
namespace Go.Proofs.YtbdhkgiakaegdaaGreatDoor.syntaxTokens
open Go Go.Abs Go.Proofs Go.ChangeShapes Go.WideShapes Go.ChangeAt Go.RowKit
theorem Ma{H:Type}{l:List (List UInt8)}{rest:List (DataW H)}{d:DataW H}(h:(d=.nil/\l=[])\/d=.slice (l.map fun s=>.lit (.string s)) rest):l.length<=Rows.uptoBulk d/\∀ u∈l,u.length<=Rows.uptoBulk d:=by
 rcases h with ⟨_,rfl⟩|rfl
 ·exact⟨aoW _,fun u hu=>by cases hu⟩
 ·simp only[Rows.uptoBulk]
  have:∀ l:List (List UInt8),l.length<=Rows.uptoBulkAll (l.map fun s=>(DataW.lit (.string s):DataW H))/\∀ u∈l,u.length<=Rows.uptoBulkAll (l.map fun s=>(DataW.lit (.string s):DataW H)):=by
   intro l
   induction l with
   | nil=>exact⟨aoW _,fun u hu=>by cases hu⟩
   | cons a l ih =>
    simp only[aoc,Rows.uptoBulkAll,Rows.uptoBulk,an0,aoH]
    refine⟨by have:=ih.1;omega,fun u hu=>?_⟩
    rcases hu with rfl|hu
    ·omega
    ·have:=ih.2 u hu;omega
  have h:=this l
  exact⟨by have:=h.1;omega,fun u hu=>by have:=h.2 u hu;omega⟩
theorem OK(H:Type)(enc:TypeId × Value->H)(W:World)(base:Nat)(args:Array Value)(ds gs:List (DataW H))(before:List MemPlace)
  (ib:∀ (j:Nat) t v,Tryz.f3.params[j]?=some t->args[j]?=some v->Value.okWide Tryz.prog W .any base t v)
  (hW:DataW.Whole enc Tryz.prog Tryz.f3.params.toList Rows.syntaxTokensSpec.vars false W args.toList ds gs before) (hk:Rows.uptoSmall H (ds++gs)=true) (hL:laidMetH Tryz.prog oq W) :
  Calls Tryz.prog 3 args W fun e W'=>∃ v,e=.returned v/\Rows.syntaxTokensSpec.post enc Tryz.prog Tryz.f3 false true false false W args v W':=by
 have mg:=hW
 obtain⟨p,q,hA0,hV,rfl,hfz,Lo⟩:=hW
 have hA:DataW.TrodAll enc Tryz.prog W 0 (fun _=>true) true Tryz.f3.params.toList args.toList ds p:=hA0
 rw[Tryz.params3] at hA ib
 obtain⟨v0,vs0,d0,ds0,p0,q0,fP,rfl,rfl,h0,r0⟩:=trodAll_cons hA
 obtain⟨v1,vs1,d1,ds1,p1,q1,rfl,rfl,rfl,h1,r1⟩:=trodAll_cons r0
 obtain⟨v2,vs2,d2,ds2,p2,q2,rfl,rfl,rfl,h2,r2⟩:=trodAll_cons r1
 obtain⟨v3,vs3,d3,ds3,p3,q3,rfl,rfl,rfl,h3,r3⟩:=trodAll_cons r2
 obtain⟨v4,vs4,d4,ds4,p4,q4,rfl,rfl,rfl,h4,r4⟩:=trodAll_cons r3
 obtain⟨v5,vs5,d5,ds5,p5,q5,rfl,rfl,rfl,h5,r5⟩:=trodAll_cons r4
 obtain⟨rfl,rfl,rfl⟩:=trodAll_nil r5
 obtain rfl:args=#[v0,v1,v2,v3,v4,v5]:=by cases args;simp_all
 have hV0:=hV
 obtain⟨rfl,rfl⟩:=trodVars_none hV
 obtain⟨l0,t0,e0,b0,x0⟩:=Oy (show Tryz.prog.underlying 22=some (.slice 3) by kernel_rfl) (show Tryz.prog.underlying 3=some (.int .i64) by kernel_rfl) (by kernel_rfl) (ib 0 _ _ rfl rfl) h0
 obtain⟨l1,e1,b1,x1⟩:=Ch (show Tryz.prog.underlying 3=some (.int .i64) by kernel_rfl) (ib 1 _ _ rfl rfl) h1
 obtain⟨l2,e2,b2,x2⟩:=Ch (show Tryz.prog.underlying 3=some (.int .i64) by kernel_rfl) (ib 2 _ _ rfl rfl) h2
 obtain⟨l3,e3,b3,x3⟩:=Ch (show Tryz.prog.underlying 3=some (.int .i64) by kernel_rfl) (ib 3 _ _ rfl rfl) h3
 obtain⟨l4,e4,x4⟩:=Iz (show Tryz.prog.underlying 9=some .string by kernel_rfl) (ib 4 _ _ rfl rfl) h4
 obtain⟨l5,t5,e5,x5⟩:=Oz (show Tryz.prog.underlying 23=some (.slice 9) by kernel_rfl) (show Tryz.prog.underlying 9=some .string by kernel_rfl) (by kernel_rfl) (ib 5 _ _ rfl rfl) h5
 have hsm:=of_decide_eq_true hk
 have hm:Rows.uptoBulk d4=l4.length+1:=by rw[e4];simp[Rows.uptoBulk]
 obtain⟨AL,lT⟩:=Ma e5
 simp only[apl,apm,Rows.uptoBulkAll] at hsm
 have hr:=V7 Wx (afu l0 l1 l2 l3 l4 l5 b0 b1 b2 b3 (by omega) (by omega) (fun u hu=>by have:=lT u hu;omega)) (ajj hL) (vs:=#[v0,v1,v2,v3,v4,v5]) rfl (by
  intro j v x hv hx
  match j with
  | 0=>cases hv;cases hx;exact x0
  | 1=>cases hv;cases hx;exact x1
  | 2=>cases hv;cases hx;exact x2
  | 3=>cases hv;cases hx;exact x3
  | 4=>cases hv;cases hx;exact x4
  | 5=>cases hv;cases hx;exact x5
  | j+6=>simp at hv)
 refine hr.mono fun e W' ⟨he,aaz⟩=>⟨_,he,?_⟩
 exact Rz (by kernel_rfl) mg aaz rfl (by kernel_rfl) (by kernel_rfl) (show Tryz.prog.underlying 4=some .bool by kernel_rfl) rfl rfl rfl
theorem Ry(os:Os)(args:Array Value):laidMetH Tryz.prog oq ((World.doorLaid Tryz.prog 149 os).forCall (fun _ _=>0) ⟨#[],args,[]⟩).memory :=
 laidMetH_of_parts3 (fuel:=8) (laidMet_of_run' 8 (by kernel_rfl) (by kernel_rfl)) (by kernel_rfl) (by kernel_rfl)
theorem reads(os:Os){H:Type}(enc:TypeId × Value->H):∃ places,DataW.whole enc Tryz.prog ((World.doorLaid Tryz.prog 149 os).forCall (fun _ _=>0) ⟨#[],#[.slice none 0 0,.int .i64 0,.int .i64 0,.int .i64 0,.string .empty,.slice none 0 0],[]⟩).memory Tryz.f3.params.toList Rows.syntaxTokensSpec.vars false #[Value.slice none 0 0,.int .i64 0,.int .i64 0,.int .i64 0,.string .empty,.slice none 0 0].toList 8=some ([.nil,.lit (.int .i64 0),.lit (.int .i64 0),.lit (.int .i64 0),.lit (.string []),.nil],[],places) :=
 ⟨[],by kernel_rfl⟩
theorem lifted(os:Os)(started:os.Started)(H:Type)(enc:TypeId × Value->H)(F:Stop.Interp) :
  ReturnsInHanded {} Tryz.checked os 3 .any ((Rows.OpenSpec.upto Rows.syntaxTokensSpec).preRow enc Tryz.prog Tryz.f3 Rows.syntaxTokensUptoRow.domain false Rows.syntaxTokensUptoRow.laid) (((Rows.OpenSpec.upto Rows.syntaxTokensSpec).at F).post enc Tryz.prog Tryz.f3 false true false false):=by
 obtain⟨places,hx⟩:=reads os enc
 refine returnsInHanded_of_row (C:=Tryz.checked) (s:=Rows.OpenSpec.upto Rows.syntaxTokensSpec) (by kernel_rfl) started (by kernel_rfl) Tryz.func3
  (witness_row_atRef (enc:=enc) (C:=Tryz.checked) false (World.doorLaid Tryz.prog 149 os) #[.slice none 0 0,.int .i64 0,.int .i64 0,.int .i64 0,.string .empty,.slice none 0 0] rfl (by kernel_rfl) (by kernel_rfl) (by kernel_rfl)
   (OpenSpec.preRow_of_cond 8 hx (by kernel_rfl) (fun k hk=>by cases hk;kernel_rfl) (by kernel_rfl) (Ry os _))) ?_
 intro W base args ds gs before ib hW _ hc _ hL _ _
 exact OK H enc W base args ds gs before ib hW (hc _ rfl) hL
theorem said:Rows.SyntaxTokensUptoSaid :=
 OpenClaim.holds_of_cond 3 Tryz.f3 rfl rfl rfl rfl rfl rfl rfl ⟨rfl,rfl,rfl,rfl,rfl⟩ rfl rfl rfl rfl rfl (by kernel_rfl) Tryz.func3 (by kernel_rfl)
  (of_decide_eq_true (by kernel_rfl)) (by unfold Func.isWrapper;first|(rw[if_pos (by decide +kernel)];kernel_rfl)|(rw[if_neg (by decide +kernel)];exact⟨rfl,rfl⟩))
  (fun os started H enc _ F=>by rw[OpenClaim.pre_eq_preRow];exact lifted os started H enc F)
theorem plain(f:FuncId)(fn:Func)(hf:Tryz.pinned.checked.prog.funcNamed "splicery/splicerylaw06.SyntaxTokens"=some f)(Ai:Tryz.pinned.checked.prog.funcs[f]?=some fn) :
  true=Tryz.pinned.checked.prog.looks []/\∀ (j:Nat) t,fn.params[j]?=some t->Tryz.pinned.checked.prog.wantsStandIn t=false:=by
 obtain rfl:f=3:=apc ((show Tryz.prog.funcNamed "splicery/splicerylaw06.SyntaxTokens"=some 3 by kernel_rfl).symm.trans hf) |>.symm
 obtain rfl:fn=Tryz.f3:=(apc (Tryz.func3.symm.trans Ai)).symm
 refine⟨by kernel_rfl,fun j t ht=>?_⟩
 rw[Tryz.params3] at ht
 have hm:t∈[22,3,3,3,9,23]:=by simpa using ap3 ht
 have fH:([22,3,3,3,9,23].all fun u=>!Tryz.prog.wantsStandIn u)=true:=by kernel_rfl
 exact (show Tryz.prog.wantsStandIn t=false by simpa using an'.1 fH t hm)
theorem card:Rows.SyntaxTokensUptoCardSaid :=
 Claim7.holds_tied_plain_at .later [] _ _ _ _ said (fun _ h=>by cases h) (by kernel_rfl) (fun _ h=>by cases h) syntaxTokensUpto_row_tie rfl ⟨rfl,rfl⟩ (by kernel_rfl) rfl plain (by kernel_rfl)
end Go.Proofs.YtbdhkgiakaegdaaGreatDoor.syntaxTokens
