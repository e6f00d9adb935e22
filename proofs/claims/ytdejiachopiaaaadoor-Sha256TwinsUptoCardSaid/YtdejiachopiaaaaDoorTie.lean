/-
  DERIVED. GIVEN WITH THE SEED: THE PROGRAM's TIES (one call each: nine closed facts by the kernel) AND EACH ROW's TIE, after the 31st guide's Derived/Test/Toyas{Tie, Card}.lean. No idea stands in it: it is a product of the set-up. Laid BY PROGRAM, IN A SANDBOX (cutbox-door.mjs). By AI agents, Wed Nov 11 2026. No macro, syntax, notation, axiom, sorry.
-/
import Derived.Test.YtdejiachopiaaaaDoorRows
import Derived.LaidByTextLater
import Derived.SevenTiedAt
import Derived.LaidSub
import Derived.LaidOnce
namespace Go.Proofs.YtdejiachopiaaaaDoor
open Go
set_option maxRecDepth 100000
theorem seatTie1 : Tryd.prog.laidByTextLater [("farebox/fareboxref03.K", Rows.laid_farebox_fareboxref03_K), ("farebox/fareboxref03.First", Rows.laid_farebox_fareboxref03_First), ("farebox/sha512.table", Rows.laid_farebox_sha512_table), ("farebox/sha512.first", Rows.laid_farebox_sha512_first)] [.data, .data, .data, .data] true :=
  Program.laidByTextLater_by_one 39 8 81 (by kernel_rfl) (by kernel_rfl) (by kernel_rfl) (by kernel_rfl) (by kernel_rfl) (by kernel_rfl) (fun _ _ => by kernel_rfl)
theorem seatTie2 : Tryd.prog.laidByTextLater [("farebox/sha256.first", Rows.laid_farebox_sha256_first), ("farebox/sha256.constants", Rows.laid_farebox_sha256_constants)] [.data, .data] true :=
  Program.laidByTextLater_by_one 39 8 81 (by kernel_rfl) (by kernel_rfl) (by kernel_rfl) (by kernel_rfl) (by kernel_rfl) (by kernel_rfl) (fun _ _ => by kernel_rfl)
theorem noOwnUnsafe : Tryd.pinned.checked.prog.headLifts.contains "ownunsafe" = false := by kernel_rfl
theorem tie : Tryd.prog.laidByTextLater [("farebox/fareboxref03.K", Rows.laid_farebox_fareboxref03_K), ("farebox/sha512.table", Rows.laid_farebox_sha512_table)] [.data, .data] true :=
  Program.laidByTextLater.sub seatTie1 ["farebox/fareboxref03.K", "farebox/sha512.table"] (by kernel_rfl) (by kernel_rfl)
theorem sha512Blocks_row_tie : Rows.sha512BlocksRow.laidByTextAt .later Tryd.pinned [.data, .data] true :=
  OpenClaim.laidByTextAt_later rfl rfl tie noOwnUnsafe
theorem tie2 : Tryd.prog.laidByTextLater [("farebox/sha256.constants", Rows.laid_farebox_sha256_constants)] [.data] true :=
  Program.laidByTextLater.sub seatTie2 ["farebox/sha256.constants"] (by kernel_rfl) (by kernel_rfl)
theorem sha256Blocks_row_tie : Rows.sha256BlocksRow.laidByTextAt .later Tryd.pinned [.data] true :=
  OpenClaim.laidByTextAt_later rfl rfl tie2 noOwnUnsafe
theorem tie3 : Tryd.prog.laidByTextLater [("farebox/sha256.first", Rows.laid_farebox_sha256_first), ("farebox/sha256.constants", Rows.laid_farebox_sha256_constants)] [.data, .data] true :=
  Program.laidByTextLater.sub seatTie2 ["farebox/sha256.first", "farebox/sha256.constants"] (by kernel_rfl) (by kernel_rfl)
theorem sha256Sums_row_tie : Rows.sha256SumsRow.laidByTextAt .later Tryd.pinned [.data, .data] true :=
  OpenClaim.laidByTextAt_later rfl rfl tie3 noOwnUnsafe
theorem sha256Led_row_tie : Rows.sha256LedRow.laidByTextAt .later Tryd.pinned [.data, .data] true :=
  OpenClaim.laidByTextAt_later rfl rfl tie3 noOwnUnsafe
theorem sha256Digests_row_tie : Rows.sha256DigestsRow.laidByTextAt .later Tryd.pinned [.data, .data] true :=
  OpenClaim.laidByTextAt_later rfl rfl tie3 noOwnUnsafe
theorem sha256Pieces_row_tie : Rows.sha256PiecesRow.laidByTextAt .later Tryd.pinned [.data, .data] true :=
  OpenClaim.laidByTextAt_later rfl rfl tie3 noOwnUnsafe
theorem sha256Twins_row_tie : Rows.sha256TwinsRow.laidByTextAt .later Tryd.pinned [.data, .data] true :=
  OpenClaim.laidByTextAt_later rfl rfl tie3 noOwnUnsafe
theorem tie4 : Tryd.prog.laidByTextLater [("farebox/fareboxref03.K", Rows.laid_farebox_fareboxref03_K), ("farebox/fareboxref03.First", Rows.laid_farebox_fareboxref03_First), ("farebox/sha512.table", Rows.laid_farebox_sha512_table), ("farebox/sha512.first", Rows.laid_farebox_sha512_first)] [.data, .data, .data, .data] true :=
  Program.laidByTextLater.sub seatTie1 ["farebox/fareboxref03.K", "farebox/fareboxref03.First", "farebox/sha512.table", "farebox/sha512.first"] (by kernel_rfl) (by kernel_rfl)
theorem sha512Digests_row_tie : Rows.sha512DigestsRow.laidByTextAt .later Tryd.pinned [.data, .data, .data, .data] true :=
  OpenClaim.laidByTextAt_later rfl rfl tie4 noOwnUnsafe
theorem sha512BlocksUpto_row_tie : Rows.sha512BlocksUptoRow.laidByTextAt .later Tryd.pinned [.data, .data] true :=
  OpenClaim.laidByTextAt_later rfl rfl tie noOwnUnsafe
theorem sha256BlocksUpto_row_tie : Rows.sha256BlocksUptoRow.laidByTextAt .later Tryd.pinned [.data] true :=
  OpenClaim.laidByTextAt_later rfl rfl tie2 noOwnUnsafe
theorem sha256SumsUpto_row_tie : Rows.sha256SumsUptoRow.laidByTextAt .later Tryd.pinned [.data, .data] true :=
  OpenClaim.laidByTextAt_later rfl rfl tie3 noOwnUnsafe
theorem sha256LedUpto_row_tie : Rows.sha256LedUptoRow.laidByTextAt .later Tryd.pinned [.data, .data] true :=
  OpenClaim.laidByTextAt_later rfl rfl tie3 noOwnUnsafe
theorem sha256DigestsUpto_row_tie : Rows.sha256DigestsUptoRow.laidByTextAt .later Tryd.pinned [.data, .data] true :=
  OpenClaim.laidByTextAt_later rfl rfl tie3 noOwnUnsafe
theorem sha256PiecesUpto_row_tie : Rows.sha256PiecesUptoRow.laidByTextAt .later Tryd.pinned [.data, .data] true :=
  OpenClaim.laidByTextAt_later rfl rfl tie3 noOwnUnsafe
theorem sha512DigestsUpto_row_tie : Rows.sha512DigestsUptoRow.laidByTextAt .later Tryd.pinned [.data, .data, .data, .data] true :=
  OpenClaim.laidByTextAt_later rfl rfl tie4 noOwnUnsafe
theorem sha256TwinsUpto_row_tie : Rows.sha256TwinsUptoRow.laidByTextAt .later Tryd.pinned [.data, .data] true :=
  OpenClaim.laidByTextAt_later rfl rfl tie3 noOwnUnsafe
end Go.Proofs.YtdejiachopiaaaaDoor
