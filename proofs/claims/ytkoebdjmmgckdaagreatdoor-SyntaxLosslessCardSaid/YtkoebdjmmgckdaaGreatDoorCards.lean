/-
  DERIVED. GIVEN WITH THE SEED: THE CARDS: each row of YtkoebdjmmgckdaaGreatDoorRows.lean that lists a variable, with what it lists TIED to the program's text (the seventh form; the later family's looks); each row that meets fmt, with fmt's text TOLD by the authors' own Lean function (tested against real Go, not proved from fmt's source: count such statements apart). THE CARD IS WHAT COUNTS. Prove the row's statement (the work); the ties are given (YtkoebdjmmgckdaaGreatDoorTie.lean); close each card by the builder's one call (the guide's Derived/Test/ToyasCard.lean, 'card_holds'). Laid BY PROGRAM, IN A SANDBOX (cutbox-door.mjs). By AI agents, Wed Nov 11 2026. No macro, syntax, notation, axiom, sorry.
-/
import Derived.Test.YtkoebdjmmgckdaaGreatDoorRows
import GoSem.ClaimSeven
namespace Go.Proofs.YtkoebdjmmgckdaaGreatDoor
namespace Rows

/-- THE TIED CARD OF 'splicerylaw06.SyntaxLossless'. -/
def syntaxLosslessCard : Claim7 := { stood := { row := syntaxLosslessRow, standIns := [], harness := (true, "2c3292b5ede6158635e9894637793f3bd771d8dbbcb7de139245fdf8d4aa9083"), looks := true }, kinds := [], alts := [], laidByText := true, laidKinds := [.data, .data, .data, .sentinel, .sentinel, .data, .funcs, .widerDeep, .mapped, .widerDeep], laidTests := true, laidLooks := .later }
def SyntaxLosslessCardSaid : Prop := Claim7.holds Tryz.pinned (.plain (OpenSpec.ofChange syntaxLosslessSpec)) syntaxLosslessCard

/-- THE SECOND FORM's CARD OF 'splicerylaw06.SyntaxLossless'. -/
def syntaxLosslessUptoCard : Claim7 := { stood := { row := syntaxLosslessUptoRow, standIns := [], harness := (true, "2c3292b5ede6158635e9894637793f3bd771d8dbbcb7de139245fdf8d4aa9083"), looks := true }, kinds := [], alts := [], laidByText := true, laidKinds := [.data, .data, .data, .sentinel, .sentinel, .data, .funcs, .widerDeep, .mapped, .widerDeep], laidTests := true, laidLooks := .later }
def SyntaxLosslessUptoCardSaid : Prop := Claim7.holds Tryz.pinned (.plain (OpenSpec.upto syntaxLosslessSpec)) syntaxLosslessUptoCard
end Rows
end Go.Proofs.YtkoebdjmmgckdaaGreatDoor
