/-
  States of eight words: their cells, and what is added to them one by one.
-/
import Derived.Test.YtaphbkkklapdaaaDoorSpec
namespace Go.Proofs.YtaphbkkklapdaaaDoor
open Go
theorem st64_of {l : List (BitVec 64)} (h : l.length = 8) : ∃ s : St 64, l = s.list := by
  match l, h with
  | [a, b, c, d, e, f, g, i], _ => exact ⟨⟨a, b, c, d, e, f, g, i⟩, rfl⟩
theorem st32_of {l : List (BitVec 32)} (h : l.length = 8) : ∃ s : St 32, l = s.list := by
  match l, h with
  | [a, b, c, d, e, f, g, i], _ => exact ⟨⟨a, b, c, d, e, f, g, i⟩, rfl⟩
theorem st_get {n : Nat} (f : BitVec n → Value) (s : St n) (k : Nat) (h : k < 8) : ((s.list.map f).toArray)[k]? = some (f (s.list.getD k 0)) := by
  simp [St.list] at *
  rcases k with _ | _ | _ | _ | _ | _ | _ | _ | k <;> first | rfl | omega
theorem st_cells {n : Nat} (f : BitVec n → Value) (s : St n) : (s.list.map f).toArray = #[f s.a, f s.b, f s.c, f s.d, f s.e, f s.f, f s.g, f s.h] := rfl
theorem addTo_length {n : Nat} (s t : St n) (k : Nat) : (addTo s.list t.list k).length = 8 := by
  simp [addTo, St.list]; omega
theorem addTo_get {n : Nat} (s t : St n) (k : Nat) (h : k < 8) : (addTo s.list t.list k)[k]? = some (s.list.getD k 0) := by
  rcases k with _ | _ | _ | _ | _ | _ | _ | _ | k <;> first | rfl | omega
theorem addTo_step {n : Nat} (s t : St n) (k : Nat) (h : k < 8) : (addTo s.list t.list k).set k (s.list.getD k 0 + t.list.getD k 0) = addTo s.list t.list (k + 1) := by
  rcases k with _ | _ | _ | _ | _ | _ | _ | _ | k <;> first | rfl | omega
theorem addTo_end {n : Nat} (s t : St n) : addTo s.list t.list 8 = (s.add t).list := rfl
theorem St.add_comm' {n : Nat} (s t : St n) : s.add t = t.add s := by
  simp [St.add, BitVec.add_comm]
theorem wpList_build_eq {P : Program} {ops : Array Oper} {rest : List Oper} {o : Oper} {a : Act} {w : World} {Q : Exit → Act → World → Prop} (hg : o.guard = none) (t : TypeId) (parts : Array (Nat × Operand)) (ho : o.op = .build t parts)
    (cs : Array Value) (hf : P.built t (parts.map fun (i, x) => (i, a.eval x)).toList = some cs)
    (h : wpList P ops Q rest (a.put o.dst (.agg cs)) w) : wpList P ops Q (o :: rest) a w :=
  wpList_build hg t parts ho (by rw [hf]; rfl) (by rw [hf]; exact h)
/-- cells of a state's row -/
theorem st_row {w : World} {b : Nat} {T : TypeId} {fr : Nat × Nat} {n : Nat} (f : BitVec n → Value) (s : St n) (h : w.heap[b]? = some (.cells (s.list.map f).toArray T fr)) :
    w.cell? ⟨b, 0, none⟩ = some (f s.a) ∧ w.cell? ⟨b, 1, none⟩ = some (f s.b) ∧ w.cell? ⟨b, 2, none⟩ = some (f s.c) ∧ w.cell? ⟨b, 3, none⟩ = some (f s.d) ∧
    w.cell? ⟨b, 4, none⟩ = some (f s.e) ∧ w.cell? ⟨b, 5, none⟩ = some (f s.f) ∧ w.cell? ⟨b, 6, none⟩ = some (f s.g) ∧ w.cell? ⟨b, 7, none⟩ = some (f s.h) :=
  ⟨cell_of_row _ _ 0 _ _ _ h, cell_of_row _ _ 1 _ _ _ h, cell_of_row _ _ 2 _ _ _ h, cell_of_row _ _ 3 _ _ _ h, cell_of_row _ _ 4 _ _ _ h, cell_of_row _ _ 5 _ _ _ h, cell_of_row _ _ 6 _ _ _ h, cell_of_row _ _ 7 _ _ _ h⟩
end Go.Proofs.YtaphbkkklapdaaaDoor
