/-
  Put into the state of zeros: its parts.
-/
import Derived.Test.YtjoliagnhmfdiaaLJoined
namespace Go.Proofs.Ytjoliagnhmfdiaa
open Go Go.RowKit Go.Proofs
def zst : List Value := (.int .i64 0 :: zeros64.map U8) ++ [.int .i64 0, .slice none 0 0]
theorem zst_length : zst.length = 67 := by simp [zst, zeros64]
theorem zero_st (w : World) : (zeroValue 58).run Try.prog w = .ok (.agg zst.toArray) w := by kernel_rfl
theorem built_st0 : Try.prog.built 58 [] = some zst.toArray := by kernel_rfl
theorem size_st : (Try.prog.info? 58).map (·.size) = some 67 := by kernel_rfl
theorem size_rows : (Try.prog.info? 56).map (·.size) = some 1 := by kernel_rfl
set_option maxRecDepth 100000 in
theorem clone_nil (w : World) : Calls Try.prog 28 #[.slice none 0 0] w fun e w' => e = .returned (.slice none 0 0) ∧ w = w' := by
  go_enter Try.func28, Try.ntmps28
  go_wp2
  go_ret
  exact ⟨rfl, rfl⟩
theorem splice_zst : splice zst 66 [.slice none 0 0] = zst := by rfl
theorem zst_one : ∀ u ∈ zst, u.oneCell' = true := by
  intro u hu
  simp only [zst, List.mem_append, List.mem_cons, List.mem_map, List.not_mem_nil, or_false] at hu
  rcases hu with (rfl | ⟨b, _, rfl⟩) | rfl | rfl <;> rfl
set_option maxRecDepth 100000 in
set_option maxHeartbeats 3200000 in
theorem own_zero (w : World) : Calls Try.prog 23 #[.agg zst.toArray] w fun e w' => e = .returned (.agg zst.toArray) ∧ Upd [] w w' := by
  have hs : (Try.prog.info? 58).map (·.size) = some zst.toArray.size := by rw [size_st]; simp [zst_length]
  have ha := all_of_one zst_one
  have hk : 66 + ([.slice none 0 0] : List Value).length ≤ zst.length := by rw [zst_length]; simp
  have HSP := Lib.hid splice_zst
  have hc0 : zst[66]? = some (.slice none 0 0) := by rfl
  have HZ0 : Hid (∀ W, (zeroValue 58).run Try.prog W = .ok (.agg zst.toArray) W) := zero_st
  obtain ⟨z, hz⟩ : ∃ z, zst = z := ⟨_, rfl⟩
  rw [hz] at hs ha hk HSP hc0 HZ0 ⊢
  clear hz
  go_enter Try.func23, Try.ntmps23
  go_wp2_with (with_reducible refine arm_box (by with_unfolding_all exact rfl) ?_)
  intro b1 w1 hb1 k1 hU1 hz1
  change w1.heap[b1]? = some (.cells z.toArray 58 (0, 0)) at k1
  go_wp2_with (with_reducible refine arm_alloc (HZ0.out _) ?_)
  intro b2 w2 hb2 k2 hU2 hz2
  change w2.heap[b2]? = some (.cells z.toArray 58 (0, 0)) at k2
  have k12 := hU2.heap k1 (by simp)
  have hV2 := hU1.trans hU2
  have hl1 : w.heap.size ≤ b1 := by omega
  have hl2 : w.heap.size ≤ b2 := by have := hU1.size; omega
  have hne : b2 ≠ b1 := by have := lt_of_heap k1; omega
  have hc : w2.cell? ⟨b1, 66, none⟩ = some (.slice none 0 0) := by rw [cell_of_row _ _ _ _ _ _ k12]; simpa using hc0
  clear k1 hb1 hU1 hz1 hb2 hU2 hz2
  go_wp2_with (first | (go_at_call 28; refine (clone_nil _).mono ?_; rintro e w3 ⟨rfl, rfl⟩) | (with_reducible refine arm_store_part (g := b1) (k := 66) (cs := [.slice none 0 0]) (by with_unfolding_all exact rfl) (by with_unfolding_all exact rfl) k12 (by with_unfolding_all exact rfl) hk (by with_unfolding_all exact size_rows) (one_list1 (by with_unfolding_all exact rfl)) ?_))
  intro w4 k14 hX4 hz4
  rw [HSP.out] at k14
  have k24 := hX4.heap k2 (by simpa using hne)
  have hV4 := hV2.trans' hX4 (fun i hm hi => by simp at hm; omega)
  clear k12 k2 hV2 hX4 hz4 hc
  go_wp2_with (first
    | (with_reducible refine arm_load (by with_unfolding_all exact rfl) k14 Try.underlying58 (by with_unfolding_all exact rfl) hs ?_)
    | (with_reducible refine arm_store (by with_unfolding_all exact rfl) (by with_unfolding_all exact rfl) k24 hs rfl ha ?_))
  intro wz kz hXz hzz
  go_wp2_with (fail)
  refine bodyPost_ret (v := .agg z.toArray) (results_cell_row rfl _ _ b2 58 _ (0, 0) _ rfl kz Try.underlying58 rfl hs) rfl ⟨rfl, ?_⟩
  exact hV4.trans' hXz (fun i hm hi => by simp at hm; omega)
set_option maxRecDepth 100000 in
set_option maxHeartbeats 1600000 in
theorem search_nil (w : World) (x : Int) (f : Value) : Calls Try.prog 29 #[.slice none 0 0, .int .i64 x, f] w fun e w' => e = .returned (.tuple #[.int .i64 0, .bool false]) ∧ Upd [] w w' := by
  go_enter Try.func29, Try.ntmps29
  go_wp2_with (fail)
  go_loopw [9, 10] (fun iv jv wr => iv = .int .i64 0 ∧ jv = .int .i64 0 ∧ wr = w) (fun _ _ _ => 0)
  case atStart => exact ⟨rfl, rfl, rfl⟩
  case round =>
    obtain ⟨rfl, rfl, rfl⟩ := hrel
    go_wp2_with (fail)
    go_ret2
    exact ⟨rfl, Upd.refl _ _⟩
set_option maxRecDepth 100000 in
theorem place_nil (w : World) (x : Int) : Calls Try.prog 24 #[.slice none 0 0, .int .i64 x] w fun e w' => e = .returned (.tuple #[.int .i64 0, .bool false]) ∧ Upd [] w w' := by
  have HS : Hid (∀ W f, Calls Try.prog 29 #[.slice none 0 0, .int .i64 x, f] W fun e w' => e = .returned (.tuple #[.int .i64 0, .bool false]) ∧ Upd [] W w') := fun W f => search_nil W x f
  go_enter Try.func24, Try.ntmps24
  go_wp2_with (fail)
  with_reducible refine (HS.out _ _).mono ?_
  rintro e w3 ⟨rfl, hU3⟩
  go_wp2_with (fail)
  go_ret2
  exact ⟨rfl, hU3⟩
end Go.Proofs.Ytjoliagnhmfdiaa
