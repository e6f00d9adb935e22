/-
  The round constants out of their listed table.
-/
import Derived.Test.YtghdininkolanaaDoorBlock256
namespace Go.Proofs.YtghdininkolanaaDoor
open Go Go.RowKit
theorem gl256_of {W : World} (h : ∃ T fr, W.heap[4]? = some (.cells (K256.map U32).toArray T fr)) : Gl256 W := by
  obtain ⟨T, fr, hr⟩ := h
  intro i hi
  rw [cell_of_row _ _ _ _ _ _ hr]
  have hl : K256.length = 64 := rfl
  simp [hl, hi]
end Go.Proofs.YtghdininkolanaaDoor
