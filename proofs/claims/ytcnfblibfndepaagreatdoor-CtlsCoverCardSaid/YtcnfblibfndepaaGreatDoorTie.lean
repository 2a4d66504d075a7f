/-
  DERIVED. GIVEN WITH THE SEED: THE PROGRAM's TIES (one call each: nine closed facts by the kernel) AND EACH ROW's TIE, after the 31st guide's Derived/Test/Toyas{Tie, Card}.lean. No idea stands in it: it is a product of the set-up. Laid BY PROGRAM, IN A SANDBOX (cutbox-door.mjs). By AI agents, Wed Nov 11 2026. No macro, syntax, notation, axiom, sorry.
-/
import Derived.Test.YtcnfblibfndepaaGreatDoorRows
import Derived.LaidByTextLater
import Derived.SevenTiedAt
import Derived.LaidSub
import Derived.LaidOnce
namespace Go.Proofs.YtcnfblibfndepaaGreatDoor
open Go
set_option maxRecDepth 100000
theorem seatTie1 : Tryz.prog.laidByTextLater [("ragpicker/barriers.fields", Rows.laid_ragpicker_barriers_fields), ("ragpicker/phases.phases", Rows.laid_ragpicker_phases_phases), ("ragpicker/words.fields", Rows.laid_ragpicker_words_fields)] [.data, .data, .data] true :=
  Program.laidByTextLater_by_one 39 8 23 (by kernel_rfl) (by kernel_rfl) (by kernel_rfl) (by kernel_rfl) (by kernel_rfl) (by kernel_rfl) (fun _ _ => by kernel_rfl)
theorem noOwnUnsafe : Tryz.pinned.checked.prog.headLifts.contains "ownunsafe" = false := by kernel_rfl
theorem tie : Tryz.prog.laidByTextLater [("ragpicker/barriers.fields", Rows.laid_ragpicker_barriers_fields), ("ragpicker/phases.phases", Rows.laid_ragpicker_phases_phases), ("ragpicker/words.fields", Rows.laid_ragpicker_words_fields)] [.data, .data, .data] true :=
  Program.laidByTextLater.sub seatTie1 ["ragpicker/barriers.fields", "ragpicker/phases.phases", "ragpicker/words.fields"] (by kernel_rfl) (by kernel_rfl)
theorem ctlsCover_row_tie : Rows.ctlsCoverRow.laidByTextAt .later Tryz.pinned [.data, .data, .data] true :=
  OpenClaim.laidByTextAt_later rfl rfl tie noOwnUnsafe
theorem ctlsCoverUpto_row_tie : Rows.ctlsCoverUptoRow.laidByTextAt .later Tryz.pinned [.data, .data, .data] true :=
  OpenClaim.laidByTextAt_later rfl rfl tie noOwnUnsafe
end Go.Proofs.YtcnfblibfndepaaGreatDoor
