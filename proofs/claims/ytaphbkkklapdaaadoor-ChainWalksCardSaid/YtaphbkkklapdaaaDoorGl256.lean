/-
  The round constants out of their listed table.
-/
import Derived.Test.YtaphbkkklapdaaaDoorBlock256
namespace Go.Proofs.YtaphbkkklapdaaaDoor
open Go Go.RowKit
theorem gl256_of {W : World} (h : ∃ T fr, W.heap[1]? = some (.cells (K256.map U32).toArray T fr)) : Gl256 W := by
  obtain ⟨T, fr, hr⟩ := h
  intro i hi
  rw [cell_of_row _ _ _ _ _ _ hr]
  have hl : K256.length = 64 := rfl
  simp [hl, hi]
end Go.Proofs.YtaphbkkklapdaaaDoor
