/-
  DERIVED. GIVEN WITH THE SEED: THE PROGRAM's TIES (one call each: nine closed facts by the kernel) AND EACH ROW's TIE, after the 31st guide's Derived/Test/Toyas{Tie, Card}.lean. No idea stands in it: it is a product of the set-up. Laid BY PROGRAM, IN A SANDBOX (cutbox-door.mjs). By AI agents, Wed Nov 11 2026. No macro, syntax, notation, axiom, sorry.
-/
import Derived.Test.YtkmbepgofajfkaaDoorRows
import Derived.LaidByTextLater
import Derived.SevenTiedAt
import Derived.LaidSub
import Derived.LaidOnce
namespace Go.Proofs.YtkmbepgofajfkaaDoor
open Go
set_option maxRecDepth 100000
theorem seatTie1 : Tryd.prog.laidByTextLater [("lamplighter/word.signs", Rows.laid_lamplighter_word_signs), ("lamplighter/code.kinds", Rows.laid_lamplighter_code_kinds), ("lamplighter/image.checks", Rows.laid_lamplighter_image_checks)] [.data, .widerDeep, .funcs] true :=
  Program.laidByTextLater_by_one 48 8 151 (by kernel_rfl) (by kernel_rfl) (by kernel_rfl) (by kernel_rfl) (by kernel_rfl) (by kernel_rfl) (fun _ _ => by kernel_rfl)
theorem noOwnUnsafe : Tryd.pinned.checked.prog.headLifts.contains "ownunsafe" = false := by kernel_rfl
theorem tie : Tryd.prog.laidByTextLater [("lamplighter/word.signs", Rows.laid_lamplighter_word_signs), ("lamplighter/code.kinds", Rows.laid_lamplighter_code_kinds), ("lamplighter/image.checks", Rows.laid_lamplighter_image_checks)] [.data, .widerDeep, .funcs] true :=
  Program.laidByTextLater.sub seatTie1 ["lamplighter/word.signs", "lamplighter/code.kinds", "lamplighter/image.checks"] (by kernel_rfl) (by kernel_rfl)
theorem depthFits_row_tie : Rows.depthFitsRow.laidByTextAt .later Tryd.pinned [.data, .widerDeep, .funcs] true :=
  OpenClaim.laidByTextAt_later rfl rfl tie noOwnUnsafe
theorem depthEdges_row_tie : Rows.depthEdgesRow.laidByTextAt .later Tryd.pinned [.data, .widerDeep, .funcs] true :=
  OpenClaim.laidByTextAt_later rfl rfl tie noOwnUnsafe
theorem depthNames_row_tie : Rows.depthNamesRow.laidByTextAt .later Tryd.pinned [.data, .widerDeep, .funcs] true :=
  OpenClaim.laidByTextAt_later rfl rfl tie noOwnUnsafe
theorem depthCalls_row_tie : Rows.depthCallsRow.laidByTextAt .later Tryd.pinned [.data, .widerDeep, .funcs] true :=
  OpenClaim.laidByTextAt_later rfl rfl tie noOwnUnsafe
theorem cfgDead_row_tie : Rows.cfgDeadRow.laidByTextAt .later Tryd.pinned [.data, .widerDeep, .funcs] true :=
  OpenClaim.laidByTextAt_later rfl rfl tie noOwnUnsafe
theorem cfgPaths_row_tie : Rows.cfgPathsRow.laidByTextAt .later Tryd.pinned [.data, .widerDeep, .funcs] true :=
  OpenClaim.laidByTextAt_later rfl rfl tie noOwnUnsafe
theorem cfgRows_row_tie : Rows.cfgRowsRow.laidByTextAt .later Tryd.pinned [.data, .widerDeep, .funcs] true :=
  OpenClaim.laidByTextAt_later rfl rfl tie noOwnUnsafe
theorem cfgNames_row_tie : Rows.cfgNamesRow.laidByTextAt .later Tryd.pinned [.data, .widerDeep, .funcs] true :=
  OpenClaim.laidByTextAt_later rfl rfl tie noOwnUnsafe
theorem cfgCalls_row_tie : Rows.cfgCallsRow.laidByTextAt .later Tryd.pinned [.data, .widerDeep, .funcs] true :=
  OpenClaim.laidByTextAt_later rfl rfl tie noOwnUnsafe
theorem depthFitsUpto_row_tie : Rows.depthFitsUptoRow.laidByTextAt .later Tryd.pinned [.data, .widerDeep, .funcs] true :=
  OpenClaim.laidByTextAt_later rfl rfl tie noOwnUnsafe
theorem depthEdgesUpto_row_tie : Rows.depthEdgesUptoRow.laidByTextAt .later Tryd.pinned [.data, .widerDeep, .funcs] true :=
  OpenClaim.laidByTextAt_later rfl rfl tie noOwnUnsafe
theorem depthNamesUpto_row_tie : Rows.depthNamesUptoRow.laidByTextAt .later Tryd.pinned [.data, .widerDeep, .funcs] true :=
  OpenClaim.laidByTextAt_later rfl rfl tie noOwnUnsafe
theorem depthCallsUpto_row_tie : Rows.depthCallsUptoRow.laidByTextAt .later Tryd.pinned [.data, .widerDeep, .funcs] true :=
  OpenClaim.laidByTextAt_later rfl rfl tie noOwnUnsafe
theorem cfgDeadUpto_row_tie : Rows.cfgDeadUptoRow.laidByTextAt .later Tryd.pinned [.data, .widerDeep, .funcs] true :=
  OpenClaim.laidByTextAt_later rfl rfl tie noOwnUnsafe
theorem cfgPathsUpto_row_tie : Rows.cfgPathsUptoRow.laidByTextAt .later Tryd.pinned [.data, .widerDeep, .funcs] true :=
  OpenClaim.laidByTextAt_later rfl rfl tie noOwnUnsafe
theorem cfgRowsUpto_row_tie : Rows.cfgRowsUptoRow.laidByTextAt .later Tryd.pinned [.data, .widerDeep, .funcs] true :=
  OpenClaim.laidByTextAt_later rfl rfl tie noOwnUnsafe
theorem cfgNamesUpto_row_tie : Rows.cfgNamesUptoRow.laidByTextAt .later Tryd.pinned [.data, .widerDeep, .funcs] true :=
  OpenClaim.laidByTextAt_later rfl rfl tie noOwnUnsafe
theorem cfgCallsUpto_row_tie : Rows.cfgCallsUptoRow.laidByTextAt .later Tryd.pinned [.data, .widerDeep, .funcs] true :=
  OpenClaim.laidByTextAt_later rfl rfl tie noOwnUnsafe
end Go.Proofs.YtkmbepgofajfkaaDoor
