/-
  DERIVED. GIVEN WITH THE SEED: THE CARDS: each row of YtnhpoddlmjpapaaGreatDoorRows.lean that lists a variable, with what it lists TIED to the program's text (the seventh form; the later family's looks); each row that meets fmt, with fmt's text TOLD by the authors' own Lean function (tested against real Go, not proved from fmt's source: count such statements apart). THE CARD IS WHAT COUNTS. Prove the row's statement (the work); the ties are given (YtnhpoddlmjpapaaGreatDoorTie.lean); close each card by the builder's one call (the guide's Derived/Test/ToyasCard.lean, 'card_holds'). Laid BY PROGRAM, IN A SANDBOX (cutbox-door.mjs). By AI agents, Wed Nov 11 2026. No macro, syntax, notation, axiom, sorry.
-/
import Derived.Test.YtnhpoddlmjpapaaGreatDoorRows
import GoSem.ClaimSeven
namespace Go.Proofs.YtnhpoddlmjpapaaGreatDoor
namespace Rows

/-- THE TIED CARD OF 'splicerylaw07.PrintLossless'. -/
def printLosslessCard : Claim7 := { stood := { row := printLosslessRow, standIns := [], harness := (true, "e4ed0c2e0ac13f8e3fe76af11935cb3eb20c317f145d0b707ed51819fda11f6a"), looks := true }, kinds := [], alts := [], laidByText := true, laidKinds := [.data, .data, .data, .sentinel, .sentinel, .data, .funcs, .widerDeep, .mapped, .widerDeep], laidTests := true, laidLooks := .later }
def PrintLosslessCardSaid : Prop := Claim7.holds Tryz.pinned (.plain (OpenSpec.ofChange printLosslessSpec)) printLosslessCard

/-- THE SECOND FORM's CARD OF 'splicerylaw07.PrintLossless'. -/
def printLosslessUptoCard : Claim7 := { stood := { row := printLosslessUptoRow, standIns := [], harness := (true, "e4ed0c2e0ac13f8e3fe76af11935cb3eb20c317f145d0b707ed51819fda11f6a"), looks := true }, kinds := [], alts := [], laidByText := true, laidKinds := [.data, .data, .data, .sentinel, .sentinel, .data, .funcs, .widerDeep, .mapped, .widerDeep], laidTests := true, laidLooks := .later }
def PrintLosslessUptoCardSaid : Prop := Claim7.holds Tryz.pinned (.plain (OpenSpec.upto printLosslessSpec)) printLosslessUptoCard
end Rows
end Go.Proofs.YtnhpoddlmjpapaaGreatDoor
