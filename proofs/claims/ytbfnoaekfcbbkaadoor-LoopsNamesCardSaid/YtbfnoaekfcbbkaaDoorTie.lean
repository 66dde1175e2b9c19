/-
  DERIVED. GIVEN WITH THE SEED: THE PROGRAM's TIES (one call each: nine closed facts by the kernel) AND EACH ROW's TIE, after the 31st guide's Derived/Test/Toyas{Tie, Card}.lean. No idea stands in it: it is a product of the set-up. Laid BY PROGRAM, IN A SANDBOX (cutbox-door.mjs). By AI agents, Wed Nov 11 2026. No macro, syntax, notation, axiom, sorry.
-/
import Derived.Test.YtbfnoaekfcbbkaaDoorRows
import Derived.LaidByTextLater
import Derived.SevenTiedAt
import Derived.LaidSub
import Derived.LaidOnce
namespace Go.Proofs.YtbfnoaekfcbbkaaDoor
open Go
set_option maxRecDepth 100000
theorem seatTie1 : Tryd.prog.laidByTextLater [("lamplighter/word.signs", Rows.laid_lamplighter_word_signs), ("lamplighter/code.kinds", Rows.laid_lamplighter_code_kinds), ("lamplighter/image.checks", Rows.laid_lamplighter_image_checks)] [.data, .widerDeep, .funcs] true :=
  Program.laidByTextLater_by_one 48 8 151 (by kernel_rfl) (by kernel_rfl) (by kernel_rfl) (by kernel_rfl) (by kernel_rfl) (by kernel_rfl) (fun _ _ => by kernel_rfl)
theorem noOwnUnsafe : Tryd.pinned.checked.prog.headLifts.contains "ownunsafe" = false := by kernel_rfl
theorem tie : Tryd.prog.laidByTextLater [("lamplighter/word.signs", Rows.laid_lamplighter_word_signs), ("lamplighter/code.kinds", Rows.laid_lamplighter_code_kinds), ("lamplighter/image.checks", Rows.laid_lamplighter_image_checks)] [.data, .widerDeep, .funcs] true :=
  Program.laidByTextLater.sub seatTie1 ["lamplighter/word.signs", "lamplighter/code.kinds", "lamplighter/image.checks"] (by kernel_rfl) (by kernel_rfl)
theorem loopsNames_row_tie : Rows.loopsNamesRow.laidByTextAt .later Tryd.pinned [.data, .widerDeep, .funcs] true :=
  OpenClaim.laidByTextAt_later rfl rfl tie noOwnUnsafe
theorem loopsNamesUpto_row_tie : Rows.loopsNamesUptoRow.laidByTextAt .later Tryd.pinned [.data, .widerDeep, .funcs] true :=
  OpenClaim.laidByTextAt_later rfl rfl tie noOwnUnsafe
end Go.Proofs.YtbfnoaekfcbbkaaDoor
