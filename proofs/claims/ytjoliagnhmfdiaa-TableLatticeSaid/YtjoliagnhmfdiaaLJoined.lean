/-
  The law's joined: Join of two that must be taken.
-/
import Derived.Test.YtjoliagnhmfdiaaFitted
namespace Go.Proofs.Ytjoliagnhmfdiaa
open Go Go.RowKit Go.Proofs
set_option maxRecDepth 100000 in
set_option maxHeartbeats 6400000 in
theorem ljoined_ (w : World) (a b : Ent) (ha : a.ok) (hb : b.ok) (hc : a.crt = b.crt) : Calls Try.prog 10 #[.agg (entC a).toArray, .agg (entC b).toArray] w fun e w' => e = .returned (.tuple #[.agg (entC (joinE a b)).toArray, .bool true]) ∧ Upd [] w w' := by
  have hce : crtEq a.crt b.crt = true := (crtEq_iff _ _).2 hc
  have hJ := joinE_ok ha hb
  have HJN : Hid (∀ W, Calls Try.prog 5 #[.agg (entC a).toArray, .agg (entC b).toArray] W fun e w' => e = .returned (.tuple #[.agg (entC (joinE a b)).toArray, .int .i64 0]) ∧ Upd [] W w') := fun W => tjoin_same W a b ha hb hce
  have hsa := szent ha
  have hsb := szent hb
  have hsJ := szent hJ
  have hoJ := samez zeroEnt_ok hJ
  have haJ := all_of_one (entC_one (joinE a b))
  obtain ⟨ca, hca⟩ : ∃ l, (entC a).toArray = l := ⟨_, rfl⟩
  obtain ⟨cb, hcb⟩ : ∃ l, (entC b).toArray = l := ⟨_, rfl⟩
  obtain ⟨cJ, hcJ⟩ : ∃ l, (entC (joinE a b)).toArray = l := ⟨_, rfl⟩
  obtain ⟨cz, hcz⟩ : ∃ l, (entC zeroEnt).toArray = l := ⟨_, rfl⟩
  have HZZ : Hid (∀ W, (zeroValue 29).run Try.prog W = .ok (.agg cz) W) := fun W => by rw [← hcz]; exact zero_ent W
  rw [hcz] at hoJ
  rw [hca] at HJN hsa
  rw [hcb] at HJN hsb
  rw [hcJ] at HJN hsJ hoJ haJ ⊢
  rw [hca, hcb]
  clear ha hb hc hce hJ hca hcb hcJ hcz
  go_enter Try.func10, Try.ntmps10
  go_wp2_with (with_reducible refine arm_box (by with_unfolding_all exact rfl) ?_)
  intro b2 w2 hb2 k2 hU2 hz2
  change w2.heap[b2]? = some (.cells ca 29 (0, 0)) at k2
  go_wp2_with (with_reducible refine arm_box (by with_unfolding_all exact rfl) ?_)
  intro b3 w3 hb3 k3 hU3 hz3
  change w3.heap[b3]? = some (.cells cb 29 (0, 0)) at k3
  go_wp2_with (with_reducible refine arm_alloc (HZZ.out _) ?_)
  intro b4 w4 hb4 k4 hU4 hz4
  change w4.heap[b4]? = some (.cells cz 29 (0, 0)) at k4
  have m2 := hU4.heap (hU3.heap k2 (by simp)) (by simp)
  have m3 := hU4.heap k3 (by simp)
  have hV4 := (hU2.trans hU3).trans hU4
  have hl4 : w.heap.size ≤ b4 := by have h1 := hU2.size; have h2 := hU3.size; omega
  clear k2 k3 hb2 hU2 hz2 hb3 hU3 hz3 hb4 hU4 hz4
  go_wp2_with (first
    | (with_reducible refine arm_load (by with_unfolding_all exact rfl) m2 Try.underlying29 (by with_unfolding_all exact rfl) hsa ?_)
    | (with_reducible refine arm_load (by with_unfolding_all exact rfl) m3 Try.underlying29 (by with_unfolding_all exact rfl) hsb ?_))
  with_reducible refine (HJN.out _).mono ?_
  rintro e w5 ⟨rfl, hU5⟩
  go_wp2_with (with_reducible refine arm_alloc (HZZ.out _) ?_)
  intro b6 w6 hb6 k6 hU6 hz6
  change w6.heap[b6]? = some (.cells cz 29 (0, 0)) at k6
  go_wp2_with (with_reducible refine arm_store (by with_unfolding_all exact rfl) (by with_unfolding_all exact rfl) k6 hsJ hoJ haJ ?_)
  intro w7 k7 hX7 hz7
  have hT7 := hU5.trans (hU6.fresh hb6 hX7)
  have m4 := hT7.heap k4 (by simp)
  have hV7 := hV4.trans hT7
  clear m2 m3 k4 hV4 hU5 hb6 k6 hU6 hz6 hX7 hz7 hT7
  go_wp2_with (first
    | (with_reducible refine arm_load (by with_unfolding_all exact rfl) k7 Try.underlying29 (by with_unfolding_all exact rfl) hsJ ?_)
    | (with_reducible refine arm_store (by with_unfolding_all exact rfl) (by with_unfolding_all exact rfl) m4 hsJ hoJ haJ ?_))
  intro wz kz hXz hzz
  go_wp2_with (fail)
  refine bodyPost_ret (v := .tuple #[.agg cJ, .bool true]) (results_agg_tmp rfl _ _ b4 29 _ (0, 0) _ rfl kz Try.underlying29 rfl hsJ rfl) rfl ⟨rfl, ?_⟩
  exact hV7.trans' hXz (fun i hm hi => by simp at hm; omega)
end Go.Proofs.Ytjoliagnhmfdiaa
