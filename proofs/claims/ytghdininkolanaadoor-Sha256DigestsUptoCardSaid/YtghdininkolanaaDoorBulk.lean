/-
  What a bound on the bulk of a reading says of a slice's length.
-/
import Derived.Test.YtghdininkolanaaDoorRows
namespace Go.Proofs.YtghdininkolanaaDoor
open Go
theorem bulk_pos {H : Type} (d : DataW H) : 1 ≤ Rows.uptoBulk d := by
  cases d with
  | lit l => cases l <;> simp [Rows.uptoBulk]
  | _ => simp [Rows.uptoBulk]
theorem bulk_mem {H : Type} {d : DataW H} {l : List (DataW H)} (h : d ∈ l) : Rows.uptoBulk d ≤ Rows.uptoBulkAll l := by
  induction l with
  | nil => cases h
  | cons x r ih =>
    simp only [Rows.uptoBulkAll]
    rcases List.mem_cons.1 h with rfl | h
    · omega
    · have := ih h; omega
theorem bulk_len {H : Type} (l : List (DataW H)) : l.length ≤ Rows.uptoBulkAll l := by
  induction l with
  | nil => simp [Rows.uptoBulkAll]
  | cons x r ih => have := bulk_pos x; simp only [Rows.uptoBulkAll, List.length_cons]; omega
theorem bulk_append {H : Type} (l r : List (DataW H)) : Rows.uptoBulkAll (l ++ r) = Rows.uptoBulkAll l + Rows.uptoBulkAll r := by
  induction l with
  | nil => simp [Rows.uptoBulkAll]
  | cons x l ih => simp only [List.cons_append, Rows.uptoBulkAll, ih]; omega
/-- the length of a slice that is read, out of the bound on all that is read -/
theorem bulk_slice {H : Type} {d : DataW H} {ds : List (DataW H)} {n : Nat} (hb : Rows.uptoBulkAll ds ≤ 1048576) (h : d ∈ ds) (hd : (d = .nil ∧ n = 0) ∨ ∃ e s, d = .slice e s ∧ e.length = n) : n ≤ 1048576 := by
  rcases hd with ⟨_, rfl⟩ | ⟨e, s, rfl, rfl⟩
  · omega
  · have h1 := bulk_mem h
    have h2 := bulk_len e
    simp only [Rows.uptoBulk] at h1
    omega
end Go.Proofs.YtghdininkolanaaDoor
