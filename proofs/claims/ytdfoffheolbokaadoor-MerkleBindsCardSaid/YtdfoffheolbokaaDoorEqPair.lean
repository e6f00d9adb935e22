/-
  '==' and '!=' between two Pairs of hashes.
-/
import Derived.Test.YtdfoffheolbokaaDoorPairRow
import Derived.Laws.StructEq
namespace Go.Proofs.YtdfoffheolbokaaDoor
open Go Go.RowKit Go.Proofs
theorem part_hash (w : World) (L : List Value) (o : Nat) (l : H8) (hc : (L.drop o).take 32 = l.map U8) : (part 27 L.toArray o).run Tryd.prog w = .ok (.agg (l.map U8).toArray) w := by
  obtain ⟨i, hi, _, hs, _⟩ := info_hash
  unfold part
  simp [isAgg, run_underlying Tryd.underlying27 w, sizeOf, typeInfo, hi, hs, Sem.run_bind]
  exact hc
theorem equalIn_hash (w : World) (d : Nat) (x y : H8) (hx : x.length = 32) (hy : y.length = 32) : (Op.equalIn (d + 2) 27 (.agg (x.map U8).toArray) (.agg (y.map U8).toArray)).run Tryd.prog w = .ok (x == y) w := by
  obtain ⟨i, hi, _, hs, _⟩ := info_byte
  have hc : Tryd.prog.cellsOf 5 = 1 := by simp [Program.cellsOf, hi, hs]
  have h1 := run_equalIn_array (P := Tryd.prog) w (d + 1) (x.map U8).toArray (y.map U8).toArray Tryd.underlying27 hi
  rw [show d + 2 = d + 1 + 1 from rfl, h1, hc]
  have h2 := run_eqItems_words (P := Tryd.prog) (m := 8) w d Tryd.underlying5 x y (List.range 32) (fun j hj => by have := List.mem_range.1 hj; omega)
  rw [all_range_eq x y 32 hx hy] at h2
  exact h2
theorem fields_pair : ∃ f0 f1, (Tryd.prog.fieldsOf 48).toList = [f0, f1] ∧ f0.type = 27 ∧ f1.type = 27 ∧ f0.offset = 0 ∧ f1.offset = 32 ∧ f0.name ≠ "_" ∧ f1.name ≠ "_" := by
  unfold Program.fieldsOf
  rw [Tryd.underlying48]
  exact ⟨_, _, rfl, rfl, rfl, rfl, rfl, by decide, by decide⟩
theorem eqFields_two {P : Program} (w : World) (d : Nat) (xs ys : Array Value) (f0 f1 : Field) (a1 b1 a2 b2 : Value) (r1 r2 : Bool) (n0 : f0.name ≠ "_") (n1 : f1.name ≠ "_")
    (ha1 : (part f0.type xs f0.offset).run P w = .ok a1 w) (hb1 : (part f0.type ys f0.offset).run P w = .ok b1 w) (ha2 : (part f1.type xs f1.offset).run P w = .ok a2 w) (hb2 : (part f1.type ys f1.offset).run P w = .ok b2 w)
    (e1 : (Op.equalIn d f0.type a1 b1).run P w = .ok r1 w) (e2 : (Op.equalIn d f1.type a2 b2).run P w = .ok r2 w) :
    (Op.eqFields d xs ys [f0, f1]).run P w = .ok (r1 && r2) w := by
  unfold Op.eqFields
  rw [if_pos n0]
  rw [Sem.run_bind, ha1, Result.andThen_ok, Sem.run_bind, hb1, Result.andThen_ok, Sem.run_bind, e1, Result.andThen_ok]
  cases r1
  · rfl
  · rw [if_neg (by decide)]
    unfold Op.eqFields
    rw [if_pos n1]
    rw [Sem.run_bind, ha2, Result.andThen_ok, Sem.run_bind, hb2, Result.andThen_ok, Sem.run_bind, e2, Result.andThen_ok]
    cases r2 <;> rfl
theorem equalIn_pair (w : World) (d : Nat) (x1 x2 y1 y2 : H8) (hx1 : x1.length = 32) (hx2 : x2.length = 32) (hy1 : y1.length = 32) (hy2 : y2.length = 32) :
    (Op.equalIn (d + 3) 48 (.agg ((x1 ++ x2).map U8).toArray) (.agg ((y1 ++ y2).map U8).toArray)).run Tryd.prog w = .ok ((x1 == y1) && (x2 == y2)) w := by
  obtain ⟨f0, f1, hf, t0, t1, o0, o1, n0, n1⟩ := fields_pair
  have hu : Tryd.prog.underlying 48 = some (.struct (Tryd.prog.fieldsOf 48)) := by kernel_rfl
  have hp : Tryd.prog.stoodInHeld 48 = false := by kernel_rfl
  have a1 := part_hash w ((x1 ++ x2).map U8) 0 x1 (by simp [List.map_append, hx1])
  have a2 := part_hash w ((x1 ++ x2).map U8) 32 x2 (by simp [List.map_append, hx1, hx2, List.take_of_length_le])
  have b1 := part_hash w ((y1 ++ y2).map U8) 0 y1 (by simp [List.map_append, hy1])
  have b2 := part_hash w ((y1 ++ y2).map U8) 32 y2 (by simp [List.map_append, hy1, hy2, List.take_of_length_le])
  have e1 := equalIn_hash w d x1 y1 hx1 hy1
  have e2 := equalIn_hash w d x2 y2 hx2 hy2
  have h := run_equalIn_struct (P := Tryd.prog) w (d + 2) 48 ((x1 ++ x2).map U8).toArray ((y1 ++ y2).map U8).toArray hu hp
  rw [hf] at h
  rw [h]
  exact eqFields_two w (d + 2) _ _ f0 f1 _ _ _ _ _ _ n0 n1 (t0 ▸ o0 ▸ a1) (t0 ▸ o0 ▸ b1) (t1 ▸ o1 ▸ a2) (t1 ▸ o1 ▸ b2) (t0 ▸ e1) (t1 ▸ e2)
theorem neq_pair (w : World) (x1 x2 y1 y2 : H8) (hx1 : x1.length = 32) (hx2 : x2.length = 32) (hy1 : y1.length = 32) (hy2 : y2.length = 32) :
    (binOp .neq 48 (.agg ((x1 ++ x2).map U8).toArray) (.agg ((y1 ++ y2).map U8).toArray)).run Tryd.prog w = .ok (.bool !((x1 == y1) && (x2 == y2))) w := by
  have h := equalIn_pair w 9997 x1 x2 y1 y2 hx1 hx2 hy1 hy2
  rw [run_neq_struct]
  rw [show (10000 : Nat) = 9997 + 3 from rfl, h]
  rfl
end Go.Proofs.YtdfoffheolbokaaDoor
