/-
  The law TableJoins: Join and Covers of any two entries.
-/
import Derived.Test.YtjoliagnhmfdiaaTCov
namespace Go.Proofs.Ytjoliagnhmfdiaa
open Go Go.RowKit Go.Proofs
set_option maxRecDepth 100000 in
set_option maxHeartbeats 6400000 in
theorem law_joins17 (w : World) (a b : Ent) (ha : a.ok) (hb : b.ok) : Calls Try.prog 3 #[.agg (entC a).toArray, .agg (entC b).toArray] w fun e w' => e = .returned (.bool true) ∧ Upd [] w w' := by
  have hJ := joined_ok ha hb
  have hq := fun W => eql_ent W (joined a b) (joined a b) hJ hJ
  rw [show entEq (joined a b) (joined a b) = true from (entEq_iff _ _).2 rfl] at hq
  have hgd := guard_ent
  have HT : Hid (∀ W, Calls Try.prog 5 #[.agg (entC a).toArray, .agg (entC b).toArray] W fun e w' => e = .returned (.tuple #[.agg (entC (joined a b)).toArray, .int .i64 (jerr a b)]) ∧ Upd [] W w') := fun W => tjoin_ W a b ha hb
  have HR : Hid (∀ W, Calls Try.prog 6 #[.agg (entC a).toArray, .agg (entC b).toArray] W fun e w' => e = .returned (.tuple #[.agg (entC (joined a b)).toArray, .int .i64 (jerr a b)]) ∧ Upd [] W w') := fun W => refjoin_ W a b ha hb
  have HC1 : Hid (∀ W, Calls Try.prog 7 #[.agg (entC a).toArray, .agg (entC b).toArray] W fun e w' => e = .returned (.bool (covers a b)) ∧ Upd [] W w') := fun W => tcovers_ W a b ha hb
  have HC2 : Hid (∀ W, Calls Try.prog 8 #[.agg (entC a).toArray, .agg (entC b).toArray] W fun e w' => e = .returned (.bool (covers a b)) ∧ Upd [] W w') := fun W => refcovers_ W a b ha hb
  have HC3 : Hid (∀ W, Calls Try.prog 7 #[.agg (entC (joined a b)).toArray, .agg (entC a).toArray] W fun e w' => e = .returned (.bool (covers (joined a b) a)) ∧ Upd [] W w') := fun W => tcovers_ W _ a hJ ha
  have HC4 : Hid (∀ W, Calls Try.prog 8 #[.agg (entC (joined a b)).toArray, .agg (entC a).toArray] W fun e w' => e = .returned (.bool (covers (joined a b) a)) ∧ Upd [] W w') := fun W => refcovers_ W _ a hJ ha
  have hsa := szent ha
  have hsb := szent hb
  have hsJ := szent hJ
  have hoJ := samez zeroEnt_ok hJ
  have haJ := all_of_one (entC_one (joined a b))
  obtain ⟨ER, hER⟩ : ∃ x, jerr a b = x := ⟨_, rfl⟩
  obtain ⟨C1, hC1⟩ : ∃ x, covers a b = x := ⟨_, rfl⟩
  obtain ⟨C2, hC2⟩ : ∃ x, covers (joined a b) a = x := ⟨_, rfl⟩
  rw [hER] at HT HR
  rw [hC1] at HC1 HC2
  rw [hC2] at HC3 HC4
  obtain ⟨ca, hca⟩ : ∃ l, (entC a).toArray = l := ⟨_, rfl⟩
  obtain ⟨cb, hcb⟩ : ∃ l, (entC b).toArray = l := ⟨_, rfl⟩
  obtain ⟨cJ, hcJ⟩ : ∃ l, (entC (joined a b)).toArray = l := ⟨_, rfl⟩
  obtain ⟨cz, hcz⟩ : ∃ l, (entC zeroEnt).toArray = l := ⟨_, rfl⟩
  have HZZ : Hid (∀ W, (zeroValue 29).run Try.prog W = .ok (.agg cz) W) := fun W => by rw [← hcz]; exact zero_ent W
  rw [hcz] at hoJ
  rw [hca] at HT HR HC1 HC2 HC3 HC4 hsa
  rw [hcb] at HT HR HC1 HC2 hsb
  rw [hcJ] at HT HR HC3 HC4 hq hsJ hoJ haJ
  rw [hca, hcb]
  clear ha hb hJ hER hC1 hC2 hca hcb hcJ hcz
  go_enter Try.func3, Try.ntmps3
  go_wp2_with (with_reducible refine arm_box (by with_unfolding_all exact rfl) ?_)
  intro b2 w2 hb2 k2 hU2 hz2
  change w2.heap[b2]? = some (.cells ca 29 (0, 0)) at k2
  go_wp2_with (with_reducible refine arm_box (by with_unfolding_all exact rfl) ?_)
  intro b3 w3 hb3 k3 hU3 hz3
  change w3.heap[b3]? = some (.cells cb 29 (0, 0)) at k3
  have m2 := hU3.heap k2 (by simp)
  have hV3 := hU2.trans hU3
  clear k2 hb2 hU2 hz2 hb3 hU3 hz3
  go_wp2_with (first
    | (with_reducible refine arm_load (by with_unfolding_all exact rfl) m2 Try.underlying29 (by with_unfolding_all exact rfl) hsa ?_)
    | (with_reducible refine arm_load (by with_unfolding_all exact rfl) k3 Try.underlying29 (by with_unfolding_all exact rfl) hsb ?_))
  with_reducible refine (HT.out _).mono ?_
  rintro e w4 ⟨rfl, hU4⟩
  go_wp2_with (with_reducible refine arm_alloc (HZZ.out _) ?_)
  intro b5 w5 hb5 k5 hU5 hz5
  change w5.heap[b5]? = some (.cells cz 29 (0, 0)) at k5
  go_wp2_with (with_reducible refine arm_store (by with_unfolding_all exact rfl) (by with_unfolding_all exact rfl) k5 hsJ hoJ haJ ?_)
  intro w6 k6 hX6 hz6
  have hT6 := hU4.trans (hU5.fresh hb5 hX6)
  have m26 := hT6.heap m2 (by simp)
  have m36 := hT6.heap k3 (by simp)
  have hV6 := hV3.trans hT6
  clear m2 k3 hV3 hU4 hb5 k5 hU5 hz5 hX6 hz6 hT6
  go_wp2_with (first
    | (with_reducible refine arm_load (by with_unfolding_all exact rfl) m26 Try.underlying29 (by with_unfolding_all exact rfl) hsa ?_)
    | (with_reducible refine arm_load (by with_unfolding_all exact rfl) m36 Try.underlying29 (by with_unfolding_all exact rfl) hsb ?_))
  with_reducible refine (HR.out _).mono ?_
  rintro e w7 ⟨rfl, hU7⟩
  go_wp2_with (with_reducible refine arm_alloc (HZZ.out _) ?_)
  intro b7 w8 hb7 k8 hU8 hz8
  change w8.heap[b7]? = some (.cells cz 29 (0, 0)) at k8
  go_wp2_with (with_reducible refine arm_store (by with_unfolding_all exact rfl) (by with_unfolding_all exact rfl) k8 hsJ hoJ haJ ?_)
  intro w9 k9 hX9 hz9
  have hT9 := hU7.trans (hU8.fresh hb7 hX9)
  have m29 := hT9.heap m26 (by simp)
  have m39 := hT9.heap m36 (by simp)
  have m59 := hT9.heap k6 (by simp)
  have hV9 := hV6.trans hT9
  clear m26 m36 hV6 hU7 hb7 k8 hU8 hz8 hX9 hz9 hT9 k6
  have HQ2 : Hid (∀ W, Upd [] w9 W → ∃ t fr, W.heap[b2]? = some (.cells ca t fr)) := fun W hW => ⟨_, _, hW.heap m29 (by simp)⟩
  have HQ3 : Hid (∀ W, Upd [] w9 W → ∃ t fr, W.heap[b3]? = some (.cells cb t fr)) := fun W hW => ⟨_, _, hW.heap m39 (by simp)⟩
  have HQ5 : Hid (∀ W, Upd [] w9 W → ∃ t fr, W.heap[b5]? = some (.cells cJ t fr)) := fun W hW => ⟨_, _, hW.heap m59 (by simp)⟩
  have HQ7 : Hid (∀ W, Upd [] w9 W → ∃ t fr, W.heap[b7]? = some (.cells cJ t fr)) := fun W hW => ⟨_, _, hW.heap k9 (by simp)⟩
  clear m29 m39 m59 k9
  go_upto_region 3 with (fail)
  refine wp_region_quiet_all (Upd [] w9) (by kernel_rfl) (by kernel_rfl) (Upd.refl _ _).drew ?_
  refine wpQuiet_valK rfl (quiet_load_row 29 _ rfl b5 rfl _ HQ5.out Try.underlying29 rfl hsJ) (fun K hK => ?_)
  go_simp
  refine hK _ ?_
  clear hK K
  repeat (first
    | go_big_quiet_skip
    | (refine wpQuiet_valK rfl (quiet_load_row 29 _ rfl b2 rfl _ HQ2.out Try.underlying29 rfl hsa) (fun K hK => ?_); go_simp; refine hK _ ?_; clear hK K)
    | (refine wpQuiet_valK rfl (quiet_load_row 29 _ rfl b3 rfl _ HQ3.out Try.underlying29 rfl hsb) (fun K hK => ?_); go_simp; refine hK _ ?_; clear hK K)
    | (refine wpQuiet_valK rfl (quiet_load_row 29 _ rfl b5 rfl _ HQ5.out Try.underlying29 rfl hsJ) (fun K hK => ?_); go_simp; refine hK _ ?_; clear hK K)
    | (refine wpQuiet_valK rfl (quiet_load_row 29 _ rfl b7 rfl _ HQ7.out Try.underlying29 rfl hsJ) (fun K hK => ?_); go_simp; refine hK _ ?_; clear hK K)
    | go_big_quiet_step ((intro hw2; first
        | rfl
        | ((with_reducible refine (HC1.out _).mono ?_); exact fun e w' h => ⟨h.1, hw2.trans h.2⟩)
        | ((with_reducible refine (HC2.out _).mono ?_); exact fun e w' h => ⟨h.1, hw2.trans h.2⟩)
        | ((with_reducible refine (HC3.out _).mono ?_); exact fun e w' h => ⟨h.1, hw2.trans h.2⟩)
        | ((with_reducible refine (HC4.out _).mono ?_); exact fun e w' h => ⟨h.1, hw2.trans h.2⟩)
        )))
  refine wpQuiet_nil ?_
  intro w10 hU10
  go_wp2_with (fail)
  go_ret
  exact ⟨rfl, hV9.trans hU10⟩
end Go.Proofs.Ytjoliagnhmfdiaa
