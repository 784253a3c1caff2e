/-
  DERIVED. GIVEN WITH THE SEED: THE CARDS: each row of YtbdnnjjcdcacnaaGreatDoorRows.lean that lists a variable, with what it lists TIED to the program's text (the seventh form; the later family's looks); each row that meets fmt, with fmt's text TOLD by the authors' own Lean function (tested against real Go, not proved from fmt's source: count such statements apart). THE CARD IS WHAT COUNTS. Prove the row's statement (the work); the ties are given (YtbdnnjjcdcacnaaGreatDoorTie.lean); close each card by the builder's one call (the guide's Derived/Test/ToyasCard.lean, 'card_holds'). Laid BY PROGRAM, IN A SANDBOX (cutbox-door.mjs). By AI agents, Wed Nov 11 2026. No macro, syntax, notation, axiom, sorry.
-/
import Derived.Test.YtbdnnjjcdcacnaaGreatDoorRows
import GoSem.ClaimSeven
namespace Go.Proofs.YtbdnnjjcdcacnaaGreatDoor
namespace Rows

/-- THE TIED CARD OF 'splicerylaw07.PrintForms'. -/
def printFormsCard : Claim7 := { stood := { row := printFormsRow, standIns := [], harness := (true, "89c8833ec47862af5caeac70bb445e256038970b4ca172d47301711feeec3b8f"), looks := true }, kinds := [], alts := [], laidByText := true, laidKinds := [.data, .data, .data, .sentinel, .sentinel, .data, .funcs, .widerDeep, .mapped, .widerDeep], laidTests := true, laidLooks := .later }
def PrintFormsCardSaid : Prop := Claim7.holds Tryz.pinned (.plain (OpenSpec.ofChange printFormsSpec)) printFormsCard

/-- THE SECOND FORM's CARD OF 'splicerylaw07.PrintForms'. -/
def printFormsUptoCard : Claim7 := { stood := { row := printFormsUptoRow, standIns := [], harness := (true, "89c8833ec47862af5caeac70bb445e256038970b4ca172d47301711feeec3b8f"), looks := true }, kinds := [], alts := [], laidByText := true, laidKinds := [.data, .data, .data, .sentinel, .sentinel, .data, .funcs, .widerDeep, .mapped, .widerDeep], laidTests := true, laidLooks := .later }
def PrintFormsUptoCardSaid : Prop := Claim7.holds Tryz.pinned (.plain (OpenSpec.upto printFormsSpec)) printFormsUptoCard
end Rows
end Go.Proofs.YtbdnnjjcdcacnaaGreatDoor
