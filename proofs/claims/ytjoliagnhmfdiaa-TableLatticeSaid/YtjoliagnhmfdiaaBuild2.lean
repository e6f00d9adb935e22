/-
  A struct of two fields, built: the fields' cells side by side.
-/
import Derived.Test.YtjoliagnhmfdiaaMid
namespace Go.Proofs.Ytjoliagnhmfdiaa
open Go Go.RowKit
theorem splice_set (L : List Value) (o : Nat) (v : Value) (vs : List Value) (h : o < L.length) : splice (L.set o v) (o + 1) vs = splice L o (v :: vs) := by
  unfold splice
  rw [List.drop_set_of_lt (by omega), List.take_set, List.length_cons, List.take_succ_eq_append_getElem h, List.set_append_right _ _ (by simp; omega)]
  have : o - (L.take o).length = 0 := by simp; omega
  rw [this]
  simp [Nat.add_assoc, Nat.add_comm 1]
theorem fold_set (off : Nat) : ∀ (cs : List Value) (k : Nat) (cells : Array Value), off + k + cs.length ≤ cells.size →
    ((cs.zipIdx k).foldl (fun a x => a.setIfInBounds (off + x.2) x.1) cells).toList = splice cells.toList (off + k) cs
  | [], k, cells, _ => by simp [splice]
  | c :: cs, k, cells, h => by
    have h' : off + k + (cs.length + 1) ≤ cells.size := by simpa using h
    rw [List.zipIdx_cons, List.foldl_cons, fold_set off cs (k + 1) _ (by simp; omega)]
    simp only [Array.toList_setIfInBounds]
    rw [show off + (k + 1) = off + k + 1 by omega]
    exact splice_set _ _ _ _ (by simp; omega)
theorem fill_two {place : Nat → Option (Nat × Nat)} {cells : Array Value} {v0 v1 : Value} {s0 s1 : Nat} (h0 : place 0 = some (0, s0)) (h1 : place 1 = some (s0, s1)) (hc : cells.size = s0 + s1) (c0 : v0.cells.size = s0) (c1 : v1.cells.size = s1) :
    Instr.fill place cells [(0, v0), (1, v1)] = some (v0.cells ++ v1.cells) := by
  simp only [Instr.fill, h0, h1]
  have e0 : (v0.cells.zipIdx.foldl (fun cs x => cs.setIfInBounds (0 + x.2) x.1) cells).toList = splice cells.toList 0 v0.cells.toList := by
    have := fold_set 0 v0.cells.toList 0 cells (by simp [c0]; omega)
    rw [← this, ← Array.foldl_toList]
    simp
  have z0 : (v0.cells.zipIdx.foldl (fun cs x => cs.setIfInBounds (0 + x.2) x.1) cells).size = s0 + s1 := by
    rw [← Array.length_toList, e0]; simp [splice, c0]; omega
  have e1 := fold_set s0 v1.cells.toList 0 (v0.cells.zipIdx.foldl (fun cs x => cs.setIfInBounds (0 + x.2) x.1) cells) (by rw [z0]; simp [c1])
  rw [if_neg (by simp [c0, hc]), if_neg (by rw [z0]; simp [c1])]
  congr 1
  apply Array.ext'
  rw [e0] at e1
  have e2 : (v1.cells.zipIdx.foldl (fun cs x => cs.setIfInBounds (s0 + x.2) x.1) (v0.cells.zipIdx.foldl (fun cs x => cs.setIfInBounds (0 + x.2) x.1) cells)).toList = splice (splice cells.toList 0 v0.cells.toList) (s0 + 0) v1.cells.toList := by
    rw [← e1, ← Array.foldl_toList]
    simp
  rw [e2]
  simp [splice, c0, c1, hc]
theorem built_two {P : Program} {t : TypeId} {f0 f1 : Field} {it i0 i1 : TypeInfo} {z v0 v1 : Value} {s0 s1 : Nat} (hi : P.info? t = some it) (hu : P.underlying t = some (.struct #[f0, f1])) (hz : it.zero = some z) (h0 : P.info? f0.type = some i0) (h1 : P.info? f1.type = some i1)
    (o0 : f0.offset = 0) (o1 : f1.offset = s0) (z0 : i0.size = s0) (z1 : i1.size = s1) (hc : z.cells.size = s0 + s1) (c0 : v0.cells.size = s0) (c1 : v1.cells.size = s1) : P.built t [(0, v0), (1, v1)] = some (v0.cells ++ v1.cells) := by
  unfold Program.built
  simp only [hi, hu, hz, List.mapM_cons, List.mapM_nil, h0, h1, Option.map_some, Option.pure_def, Option.bind_eq_bind, Option.bind_some, o0, o1, z0, z1]
  exact fill_two (by simp) (by simp) hc c0 c1
end Go.Proofs.Ytjoliagnhmfdiaa
