/-
  DERIVED. GIVEN WITH THE SEED: THE CARDS: each row of YtbadnagdfefbnaaGreatDoorRows.lean that lists a variable, with what it lists TIED to the program's text (the seventh form; the later family's looks); each row that meets fmt, with fmt's text TOLD by the authors' own Lean function (tested against real Go, not proved from fmt's source: count such statements apart). THE CARD IS WHAT COUNTS. Prove the row's statement (the work); the ties are given (YtbadnagdfefbnaaGreatDoorTie.lean); close each card by the builder's one call (the guide's Derived/Test/ToyasCard.lean, 'card_holds'). Laid BY PROGRAM, IN A SANDBOX (cutbox-door.mjs). By AI agents, Wed Nov 11 2026. No macro, syntax, notation, axiom, sorry.
-/
import Derived.Test.YtbadnagdfefbnaaGreatDoorRows
import GoSem.ClaimSeven
namespace Go.Proofs.YtbadnagdfefbnaaGreatDoor
namespace Rows

/-- THE TIED CARD OF 'splicerylaw06.SyntaxErrors'. -/
def syntaxErrorsCard : Claim7 := { stood := { row := syntaxErrorsRow, standIns := [], harness := (true, "c7085b50760819302c453eb47a1dffe2d3f6742182181efeadbad12b477e7422"), looks := true }, kinds := [], alts := [], laidByText := true, laidKinds := [.data, .data, .data, .sentinel, .sentinel, .data, .funcs, .widerDeep, .mapped, .widerDeep], laidTests := true, laidLooks := .later }
def SyntaxErrorsCardSaid : Prop := Claim7.holds Tryz.pinned (.plain (OpenSpec.ofChange syntaxErrorsSpec)) syntaxErrorsCard

/-- THE TIED CARD OF 'splicerylaw06.SyntaxLayouts'. -/
def syntaxLayoutsCard : Claim7 := { stood := { row := syntaxLayoutsRow, standIns := [], harness := (true, "c7085b50760819302c453eb47a1dffe2d3f6742182181efeadbad12b477e7422"), looks := true }, kinds := [], alts := [], laidByText := true, laidKinds := [.data, .data, .data, .sentinel, .sentinel, .data, .funcs, .widerDeep, .mapped, .widerDeep], laidTests := true, laidLooks := .later }
def SyntaxLayoutsCardSaid : Prop := Claim7.holds Tryz.pinned (.plain (OpenSpec.ofChange syntaxLayoutsSpec)) syntaxLayoutsCard

/-- THE TIED CARD OF 'splicerylaw06.SyntaxScans'. -/
def syntaxScansCard : Claim7 := { stood := { row := syntaxScansRow, standIns := [], harness := (true, "c7085b50760819302c453eb47a1dffe2d3f6742182181efeadbad12b477e7422"), looks := true }, kinds := [], alts := [], laidByText := true, laidKinds := [.data, .data, .data, .sentinel, .sentinel, .data, .funcs, .widerDeep, .mapped, .widerDeep], laidTests := true, laidLooks := .later }
def SyntaxScansCardSaid : Prop := Claim7.holds Tryz.pinned (.plain (OpenSpec.ofChange syntaxScansSpec)) syntaxScansCard

/-- THE TIED CARD OF 'splicerylaw06.SyntaxValid'. -/
def syntaxValidCard : Claim7 := { stood := { row := syntaxValidRow, standIns := [], harness := (true, "c7085b50760819302c453eb47a1dffe2d3f6742182181efeadbad12b477e7422"), looks := true }, kinds := [], alts := [], laidByText := true, laidKinds := [.data, .data, .data, .sentinel, .sentinel, .data, .funcs, .widerDeep, .mapped, .widerDeep], laidTests := true, laidLooks := .later }
def SyntaxValidCardSaid : Prop := Claim7.holds Tryz.pinned (.plain (OpenSpec.ofChange syntaxValidSpec)) syntaxValidCard

/-- THE TIED CARD OF 'splicerylaw06.SyntaxLossless'. -/
def syntaxLosslessCard : Claim7 := { stood := { row := syntaxLosslessRow, standIns := [], harness := (true, "c7085b50760819302c453eb47a1dffe2d3f6742182181efeadbad12b477e7422"), looks := true }, kinds := [], alts := [], laidByText := true, laidKinds := [.data, .data, .data, .sentinel, .sentinel, .data, .funcs, .widerDeep, .mapped, .widerDeep], laidTests := true, laidLooks := .later }
def SyntaxLosslessCardSaid : Prop := Claim7.holds Tryz.pinned (.plain (OpenSpec.ofChange syntaxLosslessSpec)) syntaxLosslessCard

/-- THE SECOND FORM's CARD OF 'splicerylaw06.SyntaxErrors'. -/
def syntaxErrorsUptoCard : Claim7 := { stood := { row := syntaxErrorsUptoRow, standIns := [], harness := (true, "c7085b50760819302c453eb47a1dffe2d3f6742182181efeadbad12b477e7422"), looks := true }, kinds := [], alts := [], laidByText := true, laidKinds := [.data, .data, .data, .sentinel, .sentinel, .data, .funcs, .widerDeep, .mapped, .widerDeep], laidTests := true, laidLooks := .later }
def SyntaxErrorsUptoCardSaid : Prop := Claim7.holds Tryz.pinned (.plain (OpenSpec.upto syntaxErrorsSpec)) syntaxErrorsUptoCard

/-- THE SECOND FORM's CARD OF 'splicerylaw06.SyntaxLayouts'. -/
def syntaxLayoutsUptoCard : Claim7 := { stood := { row := syntaxLayoutsUptoRow, standIns := [], harness := (true, "c7085b50760819302c453eb47a1dffe2d3f6742182181efeadbad12b477e7422"), looks := true }, kinds := [], alts := [], laidByText := true, laidKinds := [.data, .data, .data, .sentinel, .sentinel, .data, .funcs, .widerDeep, .mapped, .widerDeep], laidTests := true, laidLooks := .later }
def SyntaxLayoutsUptoCardSaid : Prop := Claim7.holds Tryz.pinned (.plain (OpenSpec.upto syntaxLayoutsSpec)) syntaxLayoutsUptoCard

/-- THE SECOND FORM's CARD OF 'splicerylaw06.SyntaxScans'. -/
def syntaxScansUptoCard : Claim7 := { stood := { row := syntaxScansUptoRow, standIns := [], harness := (true, "c7085b50760819302c453eb47a1dffe2d3f6742182181efeadbad12b477e7422"), looks := true }, kinds := [], alts := [], laidByText := true, laidKinds := [.data, .data, .data, .sentinel, .sentinel, .data, .funcs, .widerDeep, .mapped, .widerDeep], laidTests := true, laidLooks := .later }
def SyntaxScansUptoCardSaid : Prop := Claim7.holds Tryz.pinned (.plain (OpenSpec.upto syntaxScansSpec)) syntaxScansUptoCard

/-- THE SECOND FORM's CARD OF 'splicerylaw06.SyntaxValid'. -/
def syntaxValidUptoCard : Claim7 := { stood := { row := syntaxValidUptoRow, standIns := [], harness := (true, "c7085b50760819302c453eb47a1dffe2d3f6742182181efeadbad12b477e7422"), looks := true }, kinds := [], alts := [], laidByText := true, laidKinds := [.data, .data, .data, .sentinel, .sentinel, .data, .funcs, .widerDeep, .mapped, .widerDeep], laidTests := true, laidLooks := .later }
def SyntaxValidUptoCardSaid : Prop := Claim7.holds Tryz.pinned (.plain (OpenSpec.upto syntaxValidSpec)) syntaxValidUptoCard

/-- THE SECOND FORM's CARD OF 'splicerylaw06.SyntaxLossless'. -/
def syntaxLosslessUptoCard : Claim7 := { stood := { row := syntaxLosslessUptoRow, standIns := [], harness := (true, "c7085b50760819302c453eb47a1dffe2d3f6742182181efeadbad12b477e7422"), looks := true }, kinds := [], alts := [], laidByText := true, laidKinds := [.data, .data, .data, .sentinel, .sentinel, .data, .funcs, .widerDeep, .mapped, .widerDeep], laidTests := true, laidLooks := .later }
def SyntaxLosslessUptoCardSaid : Prop := Claim7.holds Tryz.pinned (.plain (OpenSpec.upto syntaxLosslessSpec)) syntaxLosslessUptoCard
end Rows
end Go.Proofs.YtbadnagdfefbnaaGreatDoor
