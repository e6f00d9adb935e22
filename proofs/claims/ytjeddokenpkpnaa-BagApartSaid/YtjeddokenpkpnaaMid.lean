/-
  A range of cells in the midst of a block that is known whole: load, store.
-/
import Derived.Test.YtjeddokenpkpnaaRegion
import Derived.Test.YtjeddokenpkpnaaMem
import Derived.Deep.MidRow
import Derived.Laws.CopyOwn
namespace Go.Proofs.Ytjeddokenpkpnaa
open Go Go.RowKit
section
variable {P : Program} {ops : Array Oper} {C : World → Prop}
/-- a range that lies alike in every world of the class -/
theorem quiet_load_mid {a : Act} {o : Oper} (ty : TypeId) (x : Operand) (ho : o.op = .load ty x) (g k : Nat) (hx : a.eval x = .pointer (some ⟨g, k, none⟩)) (cs : List Value)
    (hC : ∀ w, C w → w.rangeAt g k cs) {d : TypeDesc} (hu : P.underlying ty = some d) (hd : d.isRow = true)
    (hi : (P.info? ty).map (·.size) = some cs.length) : ∀ w, C w → o.quietAt P a C w (.agg cs.toArray) := by
  intro w hw
  unfold Oper.quietAt execOp
  simp only [ho, hx, Instr.loadAt, Instr.sureAddr, Sem.run_bind, Sem.run_pure, Result.andThen_ok, run_loadVar_mid w g k ty cs d (hC w hw) hu hd hi]
  exact ⟨rfl, rfl⟩
end
theorem setCells_heap_other (b : Nat) : ∀ (vs : List Value) (o : Nat) (w : World) (k : Nat), k ≠ b → (w.setCells b o vs).heap[k]? = w.heap[k]?
  | [], _, _, _, _ => rfl
  | v :: vs, o, w, k, h => by
    rw [World.setCells, setCells_heap_other b vs (o + 1) _ k h]
    exact Below.heap_setCell _ _ _ _ h
theorem setCells_size (b : Nat) : ∀ (vs : List Value) (o : Nat) (w : World), (w.setCells b o vs).heap.size = w.heap.size
  | [], _, _ => rfl
  | v :: vs, o, w => by rw [World.setCells, setCells_size b vs (o + 1)]; simp [World.setCell]
theorem setCells_rest (b : Nat) : ∀ (vs : List Value) (o : Nat) (w : World), (w.setCells b o vs).os = w.os ∧ (w.setCells b o vs).tape = w.tape ∧ (w.setCells b o vs).output = w.output
  | [], _, _ => ⟨rfl, rfl, rfl⟩
  | v :: vs, o, w => by rw [World.setCells]; exact setCells_rest b vs (o + 1) _
theorem Upd.setCells {S : List Nat} {a w : World} (h : Upd S a w) (b o : Nat) (vs : List Value) (hp : b < a.heap.size → b ∈ S) : Upd S a (w.setCells b o vs) :=
  h.trans' (T := [b]) ⟨(setCells_rest b vs o w).1, (setCells_rest b vs o w).2.1, (setCells_rest b vs o w).2.2, by rw [setCells_size]; exact Nat.le_refl _, fun k _ hn => setCells_heap_other b vs o w k (by simpa using hn)⟩
    (fun i hm hi => by simp at hm; subst hm; exact hp hi)
theorem heap_setCell_any (w : World) (g o : Nat) (t : TypeId) (fr : Nat × Nat) (cs : Array Value) (v : Value) (h : w.heap[g]? = some (.cells cs t fr)) : (w.setCell ⟨g, o, none⟩ v).heap[g]? = some (.cells (cs.setIfInBounds o v) t fr) := by
  simp [World.setCell, Array.getElem?_modify, h]
theorem setCells_heap {t : TypeId} {fr : Nat × Nat} (b : Nat) : ∀ (vs : List Value) (o : Nat) (w : World) (cur : List Value), o + vs.length ≤ cur.length → w.heap[b]? = some (.cells cur.toArray t fr) →
    (w.setCells b o vs).heap[b]? = some (.cells (splice cur o vs).toArray t fr)
  | [], o, w, cur, _, h => by simpa [World.setCells, splice] using h
  | v :: vs, o, w, cur, hl, h => by
    have hl' : o + 1 + vs.length ≤ cur.length := by simp at hl; omega
    rw [World.setCells, setCells_heap (t := t) (fr := fr) b vs (o + 1) _ (cur.set o v) (by simpa using hl') (by rw [heap_setCell_any w b o t fr _ v h]; simp)]
    have e : splice (cur.set o v) (o + 1) vs = splice cur o (v :: vs) := by
      unfold splice
      rw [List.drop_set_of_lt (by omega), List.take_set, List.length_cons]
      have hlt : o < cur.length := by omega
      rw [List.take_succ_eq_append_getElem hlt, List.set_append_right _ _ (by simp; omega)]
      have : o - (cur.take o).length = 0 := by simp; omega
      rw [this]
      simp [Nat.add_assoc, Nat.add_comm 1]
    rw [e]
theorem range_of_row {w : World} {b : Nat} {cur : List Value} {t : TypeId} {fr : Nat × Nat} (h : w.heap[b]? = some (.cells cur.toArray t fr)) (o : Nat) (cs : List Value) (hc : ∃ l r, cur = l ++ cs ++ r ∧ l.length = o) : w.rangeAt b o cs := fun j v hj => by
  obtain ⟨l, r, rfl, rfl⟩ := hc
  rw [cell_of_row _ _ _ _ _ _ h]
  obtain ⟨hlt, _⟩ := List.getElem?_eq_some_iff.1 hj
  simp only [List.getElem?_toArray]
  rw [List.getElem?_append_left (by simp; omega), List.getElem?_append_right (by omega), Nat.add_sub_cancel_left]
  exact hj
theorem there_of_row {w : World} {b : Nat} {cur : List Value} {t : TypeId} (h : w.heap[b]? = some (.cells cur.toArray t (0, 0))) (o n : Nat) (hn : o + n ≤ cur.length) : w.there b o n := fun j hj => by
  refine ⟨?_, frozen_of_row _ _ _ _ _ h⟩
  rw [cell_of_row _ _ _ _ _ _ h]
  simp; omega
end Go.Proofs.Ytjeddokenpkpnaa
