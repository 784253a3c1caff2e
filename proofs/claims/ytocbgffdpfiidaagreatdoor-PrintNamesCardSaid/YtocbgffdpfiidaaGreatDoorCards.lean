/-
  DERIVED. GIVEN WITH THE SEED: THE CARDS: each row of YtocbgffdpfiidaaGreatDoorRows.lean that lists a variable, with what it lists TIED to the program's text (the seventh form; the later family's looks); each row that meets fmt, with fmt's text TOLD by the authors' own Lean function (tested against real Go, not proved from fmt's source: count such statements apart). THE CARD IS WHAT COUNTS. Prove the row's statement (the work); the ties are given (YtocbgffdpfiidaaGreatDoorTie.lean); close each card by the builder's one call (the guide's Derived/Test/ToyasCard.lean, 'card_holds'). Laid BY PROGRAM, IN A SANDBOX (cutbox-door.mjs). By AI agents, Wed Nov 11 2026. No macro, syntax, notation, axiom, sorry.
-/
import Derived.Test.YtocbgffdpfiidaaGreatDoorRows
import GoSem.ClaimSeven
namespace Go.Proofs.YtocbgffdpfiidaaGreatDoor
namespace Rows

/-- THE TIED CARD OF 'splicerylaw07.PrintScans'. -/
def printScansCard : Claim7 := { stood := { row := printScansRow, standIns := [], harness := (true, "921522c13d02702ac4fced922b080b4c225eb64de73bfba2981937bb70af9f76"), looks := true }, kinds := [], alts := [], laidByText := true, laidKinds := [.data, .data, .data, .sentinel, .sentinel, .data, .funcs, .widerDeep, .mapped, .widerDeep], laidTests := true, laidLooks := .later }
def PrintScansCardSaid : Prop := Claim7.holds Tryz.pinned (.plain (OpenSpec.ofChange printScansSpec)) printScansCard

/-- THE TIED CARD OF 'splicerylaw07.PrintNames'. -/
def printNamesCard : Claim7 := { stood := { row := printNamesRow, standIns := [], harness := (true, "921522c13d02702ac4fced922b080b4c225eb64de73bfba2981937bb70af9f76"), looks := true }, kinds := [], alts := [], laidByText := true, laidKinds := [.data, .data, .data, .sentinel, .sentinel, .data, .funcs, .widerDeep, .mapped, .widerDeep], laidTests := true, laidLooks := .later }
def PrintNamesCardSaid : Prop := Claim7.holds Tryz.pinned (.plain (OpenSpec.ofChange printNamesSpec)) printNamesCard

/-- THE SECOND FORM's CARD OF 'splicerylaw07.PrintScans'. -/
def printScansUptoCard : Claim7 := { stood := { row := printScansUptoRow, standIns := [], harness := (true, "921522c13d02702ac4fced922b080b4c225eb64de73bfba2981937bb70af9f76"), looks := true }, kinds := [], alts := [], laidByText := true, laidKinds := [.data, .data, .data, .sentinel, .sentinel, .data, .funcs, .widerDeep, .mapped, .widerDeep], laidTests := true, laidLooks := .later }
def PrintScansUptoCardSaid : Prop := Claim7.holds Tryz.pinned (.plain (OpenSpec.upto printScansSpec)) printScansUptoCard

/-- THE SECOND FORM's CARD OF 'splicerylaw07.PrintNames'. -/
def printNamesUptoCard : Claim7 := { stood := { row := printNamesUptoRow, standIns := [], harness := (true, "921522c13d02702ac4fced922b080b4c225eb64de73bfba2981937bb70af9f76"), looks := true }, kinds := [], alts := [], laidByText := true, laidKinds := [.data, .data, .data, .sentinel, .sentinel, .data, .funcs, .widerDeep, .mapped, .widerDeep], laidTests := true, laidLooks := .later }
def PrintNamesUptoCardSaid : Prop := Claim7.holds Tryz.pinned (.plain (OpenSpec.upto printNamesSpec)) printNamesUptoCard
end Rows
end Go.Proofs.YtocbgffdpfiidaaGreatDoor
