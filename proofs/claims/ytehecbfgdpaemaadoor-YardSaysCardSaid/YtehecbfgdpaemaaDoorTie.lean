/-
  DERIVED. GIVEN WITH THE SEED: THE PROGRAM's TIES (one call each: nine closed facts by the kernel) AND EACH ROW's TIE, after the 31st guide's Derived/Test/Toyas{Tie, Card}.lean. No idea stands in it: it is a product of the set-up. Laid BY PROGRAM, IN A SANDBOX (cutbox-door.mjs). By AI agents, Wed Nov 11 2026. No macro, syntax, notation, axiom, sorry.
-/
import Derived.Test.YtehecbfgdpaemaaDoorRows
import Derived.LaidByTextLater
import Derived.SevenTiedAt
import Derived.LaidSub
import Derived.LaidOnce
namespace Go.Proofs.YtehecbfgdpaemaaDoor
open Go
set_option maxRecDepth 100000
theorem seatTie1 : Tryd.prog.laidByTextLater [("errors.errorType", Rows.laid_errors_errorType), ("letterbeck/roman.parts", Rows.laid_letterbeck_roman_parts), ("letterbeck/yard.kinds", Rows.laid_letterbeck_yard_kinds)] [.handle, .data, .funcs] true :=
  Program.laidByTextLater_by_one 63 8 27 (by kernel_rfl) (by kernel_rfl) (by kernel_rfl) (by kernel_rfl) (by kernel_rfl) (by kernel_rfl) (fun _ _ => by kernel_rfl)
theorem noOwnUnsafe : Tryd.pinned.checked.prog.headLifts.contains "ownunsafe" = false := by kernel_rfl
theorem tie : Tryd.prog.laidByTextLater [("letterbeck/yard.kinds", Rows.laid_letterbeck_yard_kinds)] [.funcs] true :=
  Program.laidByTextLater.sub seatTie1 ["letterbeck/yard.kinds"] (by kernel_rfl) (by kernel_rfl)
theorem yardDone_row_tie : Rows.yardDoneRow.laidByTextAt .later Tryd.pinned [.funcs] true :=
  OpenClaim.laidByTextAt_later rfl rfl tie noOwnUnsafe
theorem yardBrackets_row_tie : Rows.yardBracketsRow.laidByTextAt .later Tryd.pinned [.funcs] true :=
  OpenClaim.laidByTextAt_later rfl rfl tie noOwnUnsafe
theorem yardFirst_row_tie : Rows.yardFirstRow.laidByTextAt .later Tryd.pinned [.funcs] true :=
  OpenClaim.laidByTextAt_later rfl rfl tie noOwnUnsafe
theorem tie2 : Tryd.prog.laidByTextLater [("letterbeck/roman.parts", Rows.laid_letterbeck_roman_parts), ("letterbeck/yard.kinds", Rows.laid_letterbeck_yard_kinds)] [.data, .funcs] true :=
  Program.laidByTextLater.sub seatTie1 ["letterbeck/roman.parts", "letterbeck/yard.kinds"] (by kernel_rfl) (by kernel_rfl)
theorem topSums_row_tie : Rows.topSumsRow.laidByTextAt .later Tryd.pinned [.data, .funcs] true :=
  OpenClaim.laidByTextAt_later rfl rfl tie2 noOwnUnsafe
theorem tie3 : Tryd.prog.laidByTextLater [("errors.errorType", Rows.laid_errors_errorType), ("letterbeck/yard.kinds", Rows.laid_letterbeck_yard_kinds)] [.handle, .funcs] true :=
  Program.laidByTextLater.sub seatTie1 ["errors.errorType", "letterbeck/yard.kinds"] (by kernel_rfl) (by kernel_rfl)
theorem yardSays_row_tie : Rows.yardSaysRow.laidByTextAt .later Tryd.pinned [.handle, .funcs] true :=
  OpenClaim.laidByTextAt_later rfl rfl tie3 noOwnUnsafe
theorem yardRead_row_tie : Rows.yardReadRow.laidByTextAt .later Tryd.pinned [.handle, .funcs] true :=
  OpenClaim.laidByTextAt_later rfl rfl tie3 noOwnUnsafe
theorem yardDoneUpto_row_tie : Rows.yardDoneUptoRow.laidByTextAt .later Tryd.pinned [.funcs] true :=
  OpenClaim.laidByTextAt_later rfl rfl tie noOwnUnsafe
theorem yardBracketsUpto_row_tie : Rows.yardBracketsUptoRow.laidByTextAt .later Tryd.pinned [.funcs] true :=
  OpenClaim.laidByTextAt_later rfl rfl tie noOwnUnsafe
theorem topSumsUpto_row_tie : Rows.topSumsUptoRow.laidByTextAt .later Tryd.pinned [.data, .funcs] true :=
  OpenClaim.laidByTextAt_later rfl rfl tie2 noOwnUnsafe
theorem yardFirstUpto_row_tie : Rows.yardFirstUptoRow.laidByTextAt .later Tryd.pinned [.funcs] true :=
  OpenClaim.laidByTextAt_later rfl rfl tie noOwnUnsafe
theorem yardSaysUpto_row_tie : Rows.yardSaysUptoRow.laidByTextAt .later Tryd.pinned [.handle, .funcs] true :=
  OpenClaim.laidByTextAt_later rfl rfl tie3 noOwnUnsafe
theorem yardReadUpto_row_tie : Rows.yardReadUptoRow.laidByTextAt .later Tryd.pinned [.handle, .funcs] true :=
  OpenClaim.laidByTextAt_later rfl rfl tie3 noOwnUnsafe
end Go.Proofs.YtehecbfgdpaemaaDoor
