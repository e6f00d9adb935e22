/-
  The first bytes of a row, behind them zeros.
-/
import Derived.Test.YtaphbkkklapdaaaDoorMem
namespace Go.Proofs.YtaphbkkklapdaaaDoor
open Go Go.RowKit Go.Proofs
/-- the first k bytes of a row, behind them zeros -/
def upTo (l : List (BitVec 8)) (n k : Nat) : List (BitVec 8) := l.take k ++ List.replicate (n - k) 0
theorem upTo_length (l : List (BitVec 8)) (n k : Nat) (hl : l.length = n) (hk : k ≤ n) : (upTo l n k).length = n := by simp [upTo]; omega
theorem upTo_step (l : List (BitVec 8)) (n k : Nat) (hl : l.length = n) (hk : k < n) : (upTo l n k).set k (l[k]'(by omega)) = upTo l n (k + 1) := by
  unfold upTo
  rw [List.set_append_right _ _ (by simp; omega), List.take_succ_eq_append_getElem (by omega), List.append_assoc]
  congr 1
  have : k - (l.take k).length = 0 := by simp; omega
  rw [this, show n - k = (n - (k + 1)) + 1 by omega, List.replicate_succ]
  rfl
theorem upTo_all (l : List (BitVec 8)) (n : Nat) (hl : l.length = n) : upTo l n n = l := by simp [upTo, ← hl]
end Go.Proofs.YtaphbkkklapdaaaDoor
