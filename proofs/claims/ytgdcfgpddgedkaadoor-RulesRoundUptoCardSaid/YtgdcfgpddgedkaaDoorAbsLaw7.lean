/-
  RulesRound: for all rules of the generator and any text, Parse reads what Print returns as these rules, also with other blanks; what Parse reads is valid, and printed and read again it is the same, if the inputs together are not larger than 1048576.
-/
import Derived.Test.YtgdcfgpddgedkaaDoorAbsOK
import Derived.Test.YtgdcfgpddgedkaaDoorAbsSeat
import Derived.Test.YtgdcfgpddgedkaaDoorM4
import Derived.Deep.DeepHandedRow
import Derived.Deep.DeepWitnessRowRef
import Derived.ProofKit
set_option maxRecDepth 100000
namespace Go.Proofs.YtgdcfgpddgedkaaDoor.rulesRound
open Go Go.Abs Go.Proofs Go.ChangeShapes Go.WideShapes Go.ChangeAt Go.RowKit

theorem bulk_slice {H : Type} {l : List Int} {rest : List (DataW H)} {d : DataW H} (h : (d = .nil ∧ l = []) ∨ d = .slice (lits .i64 l) rest) : l.length ≤ Rows.uptoBulk d := by
  rcases h with ⟨_, rfl⟩ | rfl
  · exact Nat.zero_le _
  · simp only [Rows.uptoBulk]
    have : ∀ l : List Int, l.length ≤ Rows.uptoBulkAll (lits (H := H) .i64 l) := by
      intro l
      induction l with
      | nil => exact Nat.zero_le _
      | cons a l ih => simp only [lits, List.map_cons, Rows.uptoBulkAll, Rows.uptoBulk, List.length_cons] at ih ⊢; omega
    have := this l
    omega

theorem contract (H : Type) (enc : TypeId × Value → H) (W : World) (base : Nat) (args : Array Value) (ds gs : List (DataW H)) (before : List MemPlace)
    (hval : ∀ (j : Nat) t v, Tryd.f7.params[j]? = some t → args[j]? = some v → Value.okWide Tryd.prog W .any base t v)
    (hW : DataW.Whole enc Tryd.prog Tryd.f7.params.toList Rows.rulesRoundSpec.vars false W args.toList ds gs before) (hk : Rows.uptoSmall H (ds ++ gs) = true) (hL : laidMetH Tryd.prog laidAll W) :
    Calls Tryd.prog 7 args W fun e W' => ∃ v, e = .returned v ∧ Rows.rulesRoundSpec.post enc Tryd.prog Tryd.f7 false true false false W args v W' := by
  have hW' := hW
  obtain ⟨p, q, hA0, hV, rfl, hfz, hnd⟩ := hW
  have hA : DataW.TrodAll enc Tryd.prog W 0 (fun _ => true) true Tryd.f7.params.toList args.toList ds p := hA0
  rw [Tryd.params7] at hA hval
  obtain ⟨v0, vs0, d0, ds0, p0, q0, hargs, rfl, rfl, h0, r0⟩ := trodAll_cons hA
  obtain ⟨v1, vs1, d1, ds1, p1, q1, rfl, rfl, rfl, h1, r1⟩ := trodAll_cons r0
  obtain ⟨v2, vs2, d2, ds2, p2, q2, rfl, rfl, rfl, h2, r2⟩ := trodAll_cons r1
  obtain ⟨rfl, rfl, rfl⟩ := trodAll_nil r2
  obtain rfl : args = #[v0, v1, v2] := by cases args; simp_all
  have hV0 := hV
  obtain ⟨rfl, rfl⟩ := trodVars_none hV
  obtain ⟨l0, t0, e0, b0, x0⟩ := arg_ints Tryd.underlying22 Tryd.underlying3 (by kernel_rfl) (hval 0 _ _ rfl rfl) h0
  obtain ⟨l1, t1, e1, b1, x1⟩ := arg_ints Tryd.underlying22 Tryd.underlying3 (by kernel_rfl) (hval 1 _ _ rfl rfl) h1
  obtain ⟨l2, e2, x2⟩ := arg_string Tryd.underlying9 (hval 2 _ _ rfl rfl) h2
  have hb0 := bulk_slice e0
  have hb1 := bulk_slice e1
  have hb2 : Rows.uptoBulk d2 = l2.length + 1 := by rw [e2]; simp [Rows.uptoBulk]
  have hsm := of_decide_eq_true hk
  simp only [List.append_nil, Rows.uptoBulkAll] at hsm
  have hr := law_run progOK7 (lawRound l0 l1 l2 b0 (by omega) b1 (by omega) (by omega)) (wrel hL) (vs := #[v0, v1, v2]) rfl (by
    intro j v x hv hx
    match j with
    | 0 => cases hv; cases hx; exact x0
    | 1 => cases hv; cases hx; exact x1
    | 2 => cases hv; cases hx; exact x2
    | j + 3 => simp at hv)
  refine hr.mono fun e W' ⟨he, hbelow⟩ => ⟨_, he, ?_⟩
  exact law_post (by kernel_rfl) hW' hbelow rfl (by kernel_rfl) (by kernel_rfl) Tryd.underlying4 rfl rfl rfl

/-- A world in which the listed variables lie as start-up lays them. -/
theorem laid_met (os : Os) (args : Array Value) : laidMetH Tryd.prog laidAll ((World.doorLaid Tryd.prog 84 os).forCall (fun _ _ => 0) ⟨#[], args, []⟩).memory :=
  laidMetH_of_parts3 (fuel := 8) (laidMet_of_run' 8 (by kernel_rfl) (by kernel_rfl)) (by kernel_rfl) (by kernel_rfl)

theorem reads (os : Os) {H : Type} (enc : TypeId × Value → H) : ∃ places, DataW.whole enc Tryd.prog ((World.doorLaid Tryd.prog 84 os).forCall (fun _ _ => 0) ⟨#[], #[.slice none 0 0, .slice none 0 0, .string .empty], []⟩).memory Tryd.f7.params.toList Rows.rulesRoundSpec.vars false #[Value.slice none 0 0, .slice none 0 0, .string .empty].toList 8 = some ([.nil, .nil, .lit (.string [])], [], places) :=
  ⟨[], by kernel_rfl⟩

theorem lifted (os : Os) (started : os.Started) (H : Type) (enc : TypeId × Value → H) (F : Stop.Interp) :
    ReturnsInHanded {} Tryd.checked os 7 .any ((Rows.OpenSpec.upto Rows.rulesRoundSpec).preRow enc Tryd.prog Tryd.f7 Rows.rulesRoundUptoRow.domain false Rows.rulesRoundUptoRow.laid) (((Rows.OpenSpec.upto Rows.rulesRoundSpec).at F).post enc Tryd.prog Tryd.f7 false true false false) := by
  obtain ⟨places, hx⟩ := reads os enc
  refine returnsInHanded_of_row (C := Tryd.checked) (s := Rows.OpenSpec.upto Rows.rulesRoundSpec) (by kernel_rfl) started (by kernel_rfl) Tryd.func7
    (witness_row_atRef (enc := enc) (C := Tryd.checked) false (World.doorLaid Tryd.prog 84 os) #[.slice none 0 0, .slice none 0 0, .string .empty] rfl (by kernel_rfl) (by kernel_rfl) (by kernel_rfl)
      (OpenSpec.preRow_of_cond 8 hx (by kernel_rfl) (fun k hk => by cases hk; kernel_rfl) (by kernel_rfl) (laid_met os _))) ?_
  intro W base args ds gs before hval hW _ hc _ hL _ _
  exact contract H enc W base args ds gs before hval hW (hc _ rfl) hL

theorem said : Rows.RulesRoundUptoSaid :=
  OpenClaim.holds_of_cond 7 Tryd.f7 rfl rfl rfl rfl rfl rfl rfl ⟨rfl, rfl, rfl, rfl, rfl⟩ rfl rfl rfl rfl rfl (by kernel_rfl) Tryd.func7 (by kernel_rfl)
    (of_decide_eq_true (by kernel_rfl)) (by unfold Func.isWrapper; first | (rw [if_pos (by decide +kernel)]; kernel_rfl) | (rw [if_neg (by decide +kernel)]; exact ⟨rfl, rfl⟩))
    (fun os started H enc _ F => by rw [OpenClaim.pre_eq_preRow]; exact lifted os started H enc F)

theorem plain (f : FuncId) (fn : Func) (hf : Tryd.pinned.checked.prog.funcNamed "splicery/splicerylaw36.RulesRound" = some f) (hfn : Tryd.pinned.checked.prog.funcs[f]? = some fn) :
    true = Tryd.pinned.checked.prog.looks [] ∧ ∀ (j : Nat) t, fn.params[j]? = some t → Tryd.pinned.checked.prog.wantsStandIn t = false := by
  obtain rfl : f = 7 := Option.some.inj ((show Tryd.prog.funcNamed "splicery/splicerylaw36.RulesRound" = some 7 by kernel_rfl).symm.trans hf) |>.symm
  obtain rfl : fn = Tryd.f7 := (Option.some.inj (Tryd.func7.symm.trans hfn)).symm
  refine ⟨by kernel_rfl, fun j t ht => ?_⟩
  rw [Tryd.params7] at ht
  have hm : t ∈ [22, 22, 9] := by simpa using Array.mem_of_getElem? ht
  have hall : ([22, 22, 9].all fun u => !Tryd.prog.wantsStandIn u) = true := by kernel_rfl
  exact (show Tryd.prog.wantsStandIn t = false by simpa using List.all_eq_true.1 hall t hm)

/-- THE CARD. -/
theorem card : Rows.RulesRoundUptoCardSaid :=
  Claim7.holds_tied_plain_at .later [] _ _ _ _ said (fun _ h => by cases h) (by kernel_rfl) (fun _ h => by cases h) rulesRoundUpto_row_tie rfl ⟨rfl, rfl⟩ (by kernel_rfl) rfl plain (by kernel_rfl)

end Go.Proofs.YtgdcfgpddgedkaaDoor.rulesRound
