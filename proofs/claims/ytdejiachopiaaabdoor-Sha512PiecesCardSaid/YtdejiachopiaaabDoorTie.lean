/-
  DERIVED. GIVEN WITH THE SEED: THE PROGRAM's TIES (one call each: nine closed facts by the kernel) AND EACH ROW's TIE, after the 31st guide's Derived/Test/Toyas{Tie, Card}.lean. No idea stands in it: it is a product of the set-up. Laid BY PROGRAM, IN A SANDBOX (cutbox-door.mjs). By AI agents, Wed Nov 11 2026. No macro, syntax, notation, axiom, sorry.
-/
import Derived.Test.YtdejiachopiaaabDoorRows
import Derived.LaidByTextLater
import Derived.SevenTiedAt
import Derived.LaidSub
import Derived.LaidOnce
namespace Go.Proofs.YtdejiachopiaaabDoor
open Go
set_option maxRecDepth 100000
theorem seatTie1 : Tryd.prog.laidByTextLater [("farebox/fareboxref03.K", Rows.laid_farebox_fareboxref03_K), ("farebox/fareboxref03.First", Rows.laid_farebox_fareboxref03_First), ("farebox/sha512.table", Rows.laid_farebox_sha512_table), ("farebox/sha512.first", Rows.laid_farebox_sha512_first)] [.data, .data, .data, .data] true :=
  Program.laidByTextLater_by_one 34 8 81 (by kernel_rfl) (by kernel_rfl) (by kernel_rfl) (by kernel_rfl) (by kernel_rfl) (by kernel_rfl) (fun _ _ => by kernel_rfl)
theorem seatTie2 : Tryd.prog.laidByTextLater [("farebox/sha512.table", Rows.laid_farebox_sha512_table), ("farebox/sha512.first", Rows.laid_farebox_sha512_first), ("farebox/fareboxlaw03.first", Rows.laid_farebox_fareboxlaw03_first)] [.data, .data, .data] true :=
  Program.laidByTextLater_by_one 34 8 81 (by kernel_rfl) (by kernel_rfl) (by kernel_rfl) (by kernel_rfl) (by kernel_rfl) (by kernel_rfl) (fun _ _ => by kernel_rfl)
theorem noOwnUnsafe : Tryd.pinned.checked.prog.headLifts.contains "ownunsafe" = false := by kernel_rfl
theorem tie : Tryd.prog.laidByTextLater [("farebox/sha512.table", Rows.laid_farebox_sha512_table), ("farebox/sha512.first", Rows.laid_farebox_sha512_first)] [.data, .data] true :=
  Program.laidByTextLater.sub seatTie1 ["farebox/sha512.table", "farebox/sha512.first"] (by kernel_rfl) (by kernel_rfl)
theorem sha512Printed_row_tie : Rows.sha512PrintedRow.laidByTextAt .later Tryd.pinned [.data, .data] true :=
  OpenClaim.laidByTextAt_later rfl rfl tie noOwnUnsafe
theorem sha512Pieces_row_tie : Rows.sha512PiecesRow.laidByTextAt .later Tryd.pinned [.data, .data] true :=
  OpenClaim.laidByTextAt_later rfl rfl tie noOwnUnsafe
theorem tie2 : Tryd.prog.laidByTextLater [("farebox/fareboxref03.K", Rows.laid_farebox_fareboxref03_K), ("farebox/fareboxref03.First", Rows.laid_farebox_fareboxref03_First), ("farebox/sha512.table", Rows.laid_farebox_sha512_table), ("farebox/sha512.first", Rows.laid_farebox_sha512_first)] [.data, .data, .data, .data] true :=
  Program.laidByTextLater.sub seatTie1 ["farebox/fareboxref03.K", "farebox/fareboxref03.First", "farebox/sha512.table", "farebox/sha512.first"] (by kernel_rfl) (by kernel_rfl)
theorem sha512Sums_row_tie : Rows.sha512SumsRow.laidByTextAt .later Tryd.pinned [.data, .data, .data, .data] true :=
  OpenClaim.laidByTextAt_later rfl rfl tie2 noOwnUnsafe
theorem tie3 : Tryd.prog.laidByTextLater [("farebox/sha512.table", Rows.laid_farebox_sha512_table), ("farebox/sha512.first", Rows.laid_farebox_sha512_first), ("farebox/fareboxlaw03.first", Rows.laid_farebox_fareboxlaw03_first)] [.data, .data, .data] true :=
  Program.laidByTextLater.sub seatTie2 ["farebox/sha512.table", "farebox/sha512.first", "farebox/fareboxlaw03.first"] (by kernel_rfl) (by kernel_rfl)
theorem sha512Folds_row_tie : Rows.sha512FoldsRow.laidByTextAt .later Tryd.pinned [.data, .data, .data] true :=
  OpenClaim.laidByTextAt_later rfl rfl tie3 noOwnUnsafe
theorem sha512PrintedUpto_row_tie : Rows.sha512PrintedUptoRow.laidByTextAt .later Tryd.pinned [.data, .data] true :=
  OpenClaim.laidByTextAt_later rfl rfl tie noOwnUnsafe
theorem sha512SumsUpto_row_tie : Rows.sha512SumsUptoRow.laidByTextAt .later Tryd.pinned [.data, .data, .data, .data] true :=
  OpenClaim.laidByTextAt_later rfl rfl tie2 noOwnUnsafe
theorem sha512FoldsUpto_row_tie : Rows.sha512FoldsUptoRow.laidByTextAt .later Tryd.pinned [.data, .data, .data] true :=
  OpenClaim.laidByTextAt_later rfl rfl tie3 noOwnUnsafe
theorem sha512PiecesUpto_row_tie : Rows.sha512PiecesUptoRow.laidByTextAt .later Tryd.pinned [.data, .data] true :=
  OpenClaim.laidByTextAt_later rfl rfl tie noOwnUnsafe
end Go.Proofs.YtdejiachopiaaabDoor
