/-
  The bytes of a wide hash, one by one.
-/
import Derived.Test.YtghdininkolanaaDoorDigSum512
namespace Go.Proofs.YtghdininkolanaaDoor
open Go Go.RowKit Go.Proofs
theorem flat64_get (l : List (BitVec 64)) : ∀ i, i < 8 * l.length → (l.flatMap tell64)[i]? = some ((l.getD (i / 8) 0 >>> (56 - 8 * (i % 8))).setWidth 8) := by
  induction l with
  | nil => intro i h; simp at h
  | cons x l ih =>
    intro i h
    rw [List.flatMap_cons]
    rcases Nat.lt_or_ge i 8 with h8 | h8
    · rw [List.getElem?_append_left (by rw [tell64_length]; exact h8), List.getElem?_eq_getElem (by rw [tell64_length]; exact h8), tell64_get x i h8, Nat.mod_eq_of_lt h8, Nat.div_eq_of_lt h8]
      rfl
    · rw [List.getElem?_append_right (by rw [tell64_length]; exact h8), tell64_length, ih (i - 8) (by simp at h; omega)]
      rw [show i / 8 = (i - 8) / 8 + 1 by omega, show i % 8 = (i - 8) % 8 by omega]
      rfl
theorem hash64_get (s : St 64) (i : Nat) (h : i < 64) : (hash64 s)[i]'(by rw [hash64_length]; exact h) = (s.list.getD (i / 8) 0 >>> (56 - 8 * (i % 8))).setWidth 8 := by
  have := flat64_get s.list i (by simpa [St.list] using h)
  rw [← hash64, List.getElem?_eq_getElem (by rw [hash64_length]; exact h)] at this
  exact Option.some.inj this
end Go.Proofs.YtghdininkolanaaDoor
