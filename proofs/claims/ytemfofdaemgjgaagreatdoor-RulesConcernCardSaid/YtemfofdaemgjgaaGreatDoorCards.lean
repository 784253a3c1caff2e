/-
  DERIVED. GIVEN WITH THE SEED: THE CARDS: each row of YtemfofdaemgjgaaGreatDoorRows.lean that lists a variable, with what it lists TIED to the program's text (the seventh form; the later family's looks); each row that meets fmt, with fmt's text TOLD by the authors' own Lean function (tested against real Go, not proved from fmt's source: count such statements apart). THE CARD IS WHAT COUNTS. Prove the row's statement (the work); the ties are given (YtemfofdaemgjgaaGreatDoorTie.lean); close each card by the builder's one call (the guide's Derived/Test/ToyasCard.lean, 'card_holds'). Laid BY PROGRAM, IN A SANDBOX (cutbox-door.mjs). By AI agents, Wed Nov 11 2026. No macro, syntax, notation, axiom, sorry.
-/
import Derived.Test.YtemfofdaemgjgaaGreatDoorRows
import GoSem.ClaimSeven
namespace Go.Proofs.YtemfofdaemgjgaaGreatDoor
namespace Rows

/-- THE TIED CARD OF 'splicerylaw36.RulesConcern'. -/
def rulesConcernCard : Claim7 := { stood := { row := rulesConcernRow, standIns := [], harness := (true, "1f68e5ac4b239c0681b85d1aa47810d3837b6375244540728d6d38f2107b3817"), looks := true }, kinds := [], alts := [], laidByText := true, laidKinds := [.data, .data, .data, .sentinel, .sentinel, .data, .funcs, .widerDeep, .widerDeep], laidTests := true, laidLooks := .later }
def RulesConcernCardSaid : Prop := Claim7.holds Tryz.pinned (.plain (OpenSpec.ofChange rulesConcernSpec)) rulesConcernCard

/-- THE SECOND FORM's CARD OF 'splicerylaw36.RulesConcern'. -/
def rulesConcernUptoCard : Claim7 := { stood := { row := rulesConcernUptoRow, standIns := [], harness := (true, "1f68e5ac4b239c0681b85d1aa47810d3837b6375244540728d6d38f2107b3817"), looks := true }, kinds := [], alts := [], laidByText := true, laidKinds := [.data, .data, .data, .sentinel, .sentinel, .data, .funcs, .widerDeep, .widerDeep], laidTests := true, laidLooks := .later }
def RulesConcernUptoCardSaid : Prop := Claim7.holds Tryz.pinned (.plain (OpenSpec.upto rulesConcernSpec)) rulesConcernUptoCard
end Rows
end Go.Proofs.YtemfofdaemgjgaaGreatDoor
