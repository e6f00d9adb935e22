/-
  DERIVED. GIVEN WITH THE SEED: THE PROGRAM's TIES (one call each: nine closed facts by the kernel) AND EACH ROW's TIE, after the 31st guide's Derived/Test/Toyas{Tie, Card}.lean. No idea stands in it: it is a product of the set-up. Laid BY PROGRAM, IN A SANDBOX (cutbox-door.mjs). By AI agents, Wed Nov 11 2026. No macro, syntax, notation, axiom, sorry.
-/
import Derived.Test.YtghdininkolanaaDoorRows
import Derived.LaidByTextLater
import Derived.SevenTiedAt
import Derived.LaidSub
import Derived.LaidOnce
namespace Go.Proofs.YtghdininkolanaaDoor
open Go
set_option maxRecDepth 100000
theorem seatTie1 : Tryd.prog.laidByTextLater [("farebox/sha256.first", Rows.laid_farebox_sha256_first), ("farebox/sha256.constants", Rows.laid_farebox_sha256_constants), ("farebox/sha512.table", Rows.laid_farebox_sha512_table), ("farebox/sha512.first", Rows.laid_farebox_sha512_first)] [.data, .data, .data, .data] true :=
  Program.laidByTextLater_by_one 39 8 81 (by kernel_rfl) (by kernel_rfl) (by kernel_rfl) (by kernel_rfl) (by kernel_rfl) (by kernel_rfl) (fun _ _ => by kernel_rfl)
theorem seatTie2 : Tryd.prog.laidByTextLater [("farebox/fareboxref03.K", Rows.laid_farebox_fareboxref03_K), ("farebox/fareboxref03.First", Rows.laid_farebox_fareboxref03_First), ("farebox/sha512.table", Rows.laid_farebox_sha512_table), ("farebox/sha512.first", Rows.laid_farebox_sha512_first)] [.data, .data, .data, .data] true :=
  Program.laidByTextLater_by_one 39 8 81 (by kernel_rfl) (by kernel_rfl) (by kernel_rfl) (by kernel_rfl) (by kernel_rfl) (by kernel_rfl) (fun _ _ => by kernel_rfl)
theorem noOwnUnsafe : Tryd.pinned.checked.prog.headLifts.contains "ownunsafe" = false := by kernel_rfl
theorem tie : Tryd.prog.laidByTextLater [("farebox/sha256.first", Rows.laid_farebox_sha256_first), ("farebox/sha256.constants", Rows.laid_farebox_sha256_constants)] [.data, .data] true :=
  Program.laidByTextLater.sub seatTie1 ["farebox/sha256.first", "farebox/sha256.constants"] (by kernel_rfl) (by kernel_rfl)
theorem sha256Digests_row_tie : Rows.sha256DigestsRow.laidByTextAt .later Tryd.pinned [.data, .data] true :=
  OpenClaim.laidByTextAt_later rfl rfl tie noOwnUnsafe
theorem tie2 : Tryd.prog.laidByTextLater [("farebox/fareboxref03.K", Rows.laid_farebox_fareboxref03_K), ("farebox/fareboxref03.First", Rows.laid_farebox_fareboxref03_First), ("farebox/sha512.table", Rows.laid_farebox_sha512_table), ("farebox/sha512.first", Rows.laid_farebox_sha512_first)] [.data, .data, .data, .data] true :=
  Program.laidByTextLater.sub seatTie2 ["farebox/fareboxref03.K", "farebox/fareboxref03.First", "farebox/sha512.table", "farebox/sha512.first"] (by kernel_rfl) (by kernel_rfl)
theorem sha512Digests_row_tie : Rows.sha512DigestsRow.laidByTextAt .later Tryd.pinned [.data, .data, .data, .data] true :=
  OpenClaim.laidByTextAt_later rfl rfl tie2 noOwnUnsafe
theorem tie3 : Tryd.prog.laidByTextLater [("farebox/sha512.table", Rows.laid_farebox_sha512_table), ("farebox/sha512.first", Rows.laid_farebox_sha512_first)] [.data, .data] true :=
  Program.laidByTextLater.sub seatTie1 ["farebox/sha512.table", "farebox/sha512.first"] (by kernel_rfl) (by kernel_rfl)
theorem sha512Printed_row_tie : Rows.sha512PrintedRow.laidByTextAt .later Tryd.pinned [.data, .data] true :=
  OpenClaim.laidByTextAt_later rfl rfl tie3 noOwnUnsafe
theorem sha256DigestsUpto_row_tie : Rows.sha256DigestsUptoRow.laidByTextAt .later Tryd.pinned [.data, .data] true :=
  OpenClaim.laidByTextAt_later rfl rfl tie noOwnUnsafe
theorem sha512DigestsUpto_row_tie : Rows.sha512DigestsUptoRow.laidByTextAt .later Tryd.pinned [.data, .data, .data, .data] true :=
  OpenClaim.laidByTextAt_later rfl rfl tie2 noOwnUnsafe
theorem sha512PrintedUpto_row_tie : Rows.sha512PrintedUptoRow.laidByTextAt .later Tryd.pinned [.data, .data] true :=
  OpenClaim.laidByTextAt_later rfl rfl tie3 noOwnUnsafe
end Go.Proofs.YtghdininkolanaaDoor
