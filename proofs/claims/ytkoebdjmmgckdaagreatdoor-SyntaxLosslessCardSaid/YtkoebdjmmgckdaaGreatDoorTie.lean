/-
  DERIVED. GIVEN WITH THE SEED: THE PROGRAM's TIES (one call each: nine closed facts by the kernel) AND EACH ROW's TIE, after the 31st guide's Derived/Test/Toyas{Tie, Card}.lean. No idea stands in it: it is a product of the set-up. Laid BY PROGRAM, IN A SANDBOX (cutbox-door.mjs). By AI agents, Wed Nov 11 2026. No macro, syntax, notation, axiom, sorry.
-/
import Derived.Test.YtkoebdjmmgckdaaGreatDoorRows
import Derived.LaidByTextLater
import Derived.SevenTiedAt
import Derived.LaidSub
import Derived.LaidOnce
namespace Go.Proofs.YtkoebdjmmgckdaaGreatDoor
open Go
set_option maxRecDepth 100000
theorem seatTie1 : Tryz.prog.laidByTextLater [("math/bits.deBruijn32tab", Rows.laid_math_bits_deBruijn32tab), ("math/bits.deBruijn64tab", Rows.laid_math_bits_deBruijn64tab), ("internal/strconv.uint64pow10", Rows.laid_internal_strconv_uint64pow10), ("strconv.ErrRange", Rows.laid_strconv_ErrRange), ("strconv.ErrSyntax", Rows.laid_strconv_ErrSyntax), ("splicery/lex.signs", Rows.laid_splicery_lex_signs), ("splicery/lex.kinds", Rows.laid_splicery_lex_kinds), ("splicery/lex.keywords", Rows.laid_splicery_lex_keywords), ("splicery/syntax.operators", Rows.laid_splicery_syntax_operators), ("splicery/syntax.kinds", Rows.laid_splicery_syntax_kinds)] [.data, .data, .data, .sentinel, .sentinel, .data, .funcs, .widerDeep, .mapped, .widerDeep] true :=
  Program.laidByTextLater_by_one 149 8 65 (by kernel_rfl) (by kernel_rfl) (by kernel_rfl) (by kernel_rfl) (by kernel_rfl) (by kernel_rfl) (fun _ _ => by kernel_rfl)
theorem noOwnUnsafe : Tryz.pinned.checked.prog.headLifts.contains "ownunsafe" = false := by kernel_rfl
theorem tie : Tryz.prog.laidByTextLater [("math/bits.deBruijn32tab", Rows.laid_math_bits_deBruijn32tab), ("math/bits.deBruijn64tab", Rows.laid_math_bits_deBruijn64tab), ("internal/strconv.uint64pow10", Rows.laid_internal_strconv_uint64pow10), ("strconv.ErrRange", Rows.laid_strconv_ErrRange), ("strconv.ErrSyntax", Rows.laid_strconv_ErrSyntax), ("splicery/lex.signs", Rows.laid_splicery_lex_signs), ("splicery/lex.kinds", Rows.laid_splicery_lex_kinds), ("splicery/lex.keywords", Rows.laid_splicery_lex_keywords), ("splicery/syntax.operators", Rows.laid_splicery_syntax_operators), ("splicery/syntax.kinds", Rows.laid_splicery_syntax_kinds)] [.data, .data, .data, .sentinel, .sentinel, .data, .funcs, .widerDeep, .mapped, .widerDeep] true :=
  Program.laidByTextLater.sub seatTie1 ["math/bits.deBruijn32tab", "math/bits.deBruijn64tab", "internal/strconv.uint64pow10", "strconv.ErrRange", "strconv.ErrSyntax", "splicery/lex.signs", "splicery/lex.kinds", "splicery/lex.keywords", "splicery/syntax.operators", "splicery/syntax.kinds"] (by kernel_rfl) (by kernel_rfl)
theorem syntaxLossless_row_tie : Rows.syntaxLosslessRow.laidByTextAt .later Tryz.pinned [.data, .data, .data, .sentinel, .sentinel, .data, .funcs, .widerDeep, .mapped, .widerDeep] true :=
  OpenClaim.laidByTextAt_later rfl rfl tie noOwnUnsafe
theorem syntaxLosslessUpto_row_tie : Rows.syntaxLosslessUptoRow.laidByTextAt .later Tryz.pinned [.data, .data, .data, .sentinel, .sentinel, .data, .funcs, .widerDeep, .mapped, .widerDeep] true :=
  OpenClaim.laidByTextAt_later rfl rfl tie noOwnUnsafe
end Go.Proofs.YtkoebdjmmgckdaaGreatDoor
