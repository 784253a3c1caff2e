/-
  DERIVED. GIVEN WITH THE SEED: THE CARDS: each row of YtbdhkgiakaegdaaGreatDoorRows.lean that lists a variable, with what it lists TIED to the program's text (the seventh form; the later family's looks); each row that meets fmt, with fmt's text TOLD by the authors' own Lean function (tested against real Go, not proved from fmt's source: count such statements apart). THE CARD IS WHAT COUNTS. Prove the row's statement (the work); the ties are given (YtbdhkgiakaegdaaGreatDoorTie.lean); close each card by the builder's one call (the guide's Derived/Test/ToyasCard.lean, 'card_holds'). Laid BY PROGRAM, IN A SANDBOX (cutbox-door.mjs). By AI agents, Wed Nov 11 2026. No macro, syntax, notation, axiom, sorry.
-/
import Derived.Test.YtbdhkgiakaegdaaGreatDoorRows
import GoSem.ClaimSeven
namespace Go.Proofs.YtbdhkgiakaegdaaGreatDoor
namespace Rows

/-- THE TIED CARD OF 'splicerylaw06.SyntaxTokens'. -/
def syntaxTokensCard : Claim7 := { stood := { row := syntaxTokensRow, standIns := [], harness := (true, "18f56fbe693b22ec34e961969fda0a6b3715d98488e45e1641104141da1c169f"), looks := true }, kinds := [], alts := [], laidByText := true, laidKinds := [.data, .data, .data, .sentinel, .sentinel, .data, .funcs, .widerDeep, .mapped, .widerDeep], laidTests := true, laidLooks := .later }
def SyntaxTokensCardSaid : Prop := Claim7.holds Tryz.pinned (.plain (OpenSpec.ofChange syntaxTokensSpec)) syntaxTokensCard

/-- THE SECOND FORM's CARD OF 'splicerylaw06.SyntaxTokens'. -/
def syntaxTokensUptoCard : Claim7 := { stood := { row := syntaxTokensUptoRow, standIns := [], harness := (true, "18f56fbe693b22ec34e961969fda0a6b3715d98488e45e1641104141da1c169f"), looks := true }, kinds := [], alts := [], laidByText := true, laidKinds := [.data, .data, .data, .sentinel, .sentinel, .data, .funcs, .widerDeep, .mapped, .widerDeep], laidTests := true, laidLooks := .later }
def SyntaxTokensUptoCardSaid : Prop := Claim7.holds Tryz.pinned (.plain (OpenSpec.upto syntaxTokensSpec)) syntaxTokensUptoCard
end Rows
end Go.Proofs.YtbdhkgiakaegdaaGreatDoor
