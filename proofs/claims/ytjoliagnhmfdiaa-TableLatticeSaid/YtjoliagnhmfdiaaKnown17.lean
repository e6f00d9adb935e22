/-
  The law's known: closed calls.
-/
import Derived.Test.YtjoliagnhmfdiaaPut
namespace Go.Proofs.Ytjoliagnhmfdiaa
open Go Go.RowKit Go.Proofs
def kC : Crt := ⟨3, 9, 0, List.replicate 32 0, List.replicate 64 0⟩
def kA : Ent := { zeroEnt with crt := kC, idx := 1 }
def kB : Ent := { zeroEnt with crt := kC, idx := 2 }
theorem kC_ok : kC.ok := by simp [kC, Crt.ok]
theorem kA_ok : kA.ok := ⟨kC_ok, zeroEnt_ok.2⟩
theorem kB_ok : kB.ok := ⟨kC_ok, zeroEnt_ok.2⟩
theorem kJ : joinE kA kB = kB := by kernel_rfl
theorem built_kC : Try.prog.built 27 [(0, .int .i64 3), (1, .int .i64 9)] = some (crtC kC).toArray := by kernel_rfl
theorem built_kA : Try.prog.built 29 [(0, .agg (crtC kC).toArray), (1, .int .i64 1)] = some (entC kA).toArray := by kernel_rfl
theorem built_kB : Try.prog.built 29 [(0, .agg (crtC kC).toArray), (1, .int .i64 2)] = some (entC kB).toArray := by kernel_rfl
def zeroC : Crt := zeroCrt
theorem zero_crt (w : World) : (zeroValue 27).run Try.prog w = .ok (.agg (crtC zeroCrt).toArray) w := by kernel_rfl
theorem zeroCrt_ok : zeroCrt.ok := by simp [zeroCrt, Crt.ok]
set_option maxRecDepth 100000 in
set_option maxHeartbeats 12800000 in
theorem known_ (w : World) : Calls Try.prog 11 #[] w fun e w' => e = .returned (.bool true) ∧ Upd [] w w' := by
  have HJ1 : Hid (∀ W, Calls Try.prog 5 #[.agg (entC kA).toArray, .agg (entC kB).toArray] W fun e w' => e = .returned (.tuple #[.agg (entC kB).toArray, .int .i64 0]) ∧ Upd [] W w') := fun W => by
    have := tjoin_same W kA kB kA_ok kB_ok ((crtEq_iff _ _).2 rfl)
    rwa [kJ] at this
  have HJ2 : Hid (∀ W, Calls Try.prog 5 #[.agg (entC kA).toArray, .agg (entC zeroEnt).toArray] W fun e w' => e = .returned (.tuple #[.agg (entC zeroEnt).toArray, .int .i64 171]) ∧ Upd [] W w') := fun W => tjoin_other W kA zeroEnt kA_ok zeroEnt_ok (by kernel_rfl)
  have HP : Hid (∀ W, Calls Try.prog 19 #[.agg zst.toArray, .int .i64 1, .agg (entC kA).toArray] W fun x w' => ∃ A c, x = .returned (.tuple #[.agg (stRows (.slice A 1 c)).toArray, .bool true, .int .i64 0]) ∧ Upd [] W w') := fun W => put_zero W kA kA_ok (by decide)
  have HZE : Hid (∀ W, (zeroValue 29).run Try.prog W = .ok (.agg (entC zeroEnt).toArray) W) := zero_ent
  have HZC : Hid (∀ W, (zeroValue 27).run Try.prog W = .ok (.agg (crtC zeroCrt).toArray) W) := zero_crt
  have HZS : Hid (∀ W, (zeroValue 58).run Try.prog W = .ok (.agg zst.toArray) W) := zero_st
  have hq1 := fun W => eql_ent W kB kB kB_ok kB_ok
  rw [show entEq kB kB = true from (entEq_iff _ _).2 rfl] at hq1
  have hq2 := fun W => eql_ent W zeroEnt zeroEnt zeroEnt_ok zeroEnt_ok
  rw [show entEq zeroEnt zeroEnt = true from (entEq_iff _ _).2 rfl] at hq2
  have hgd := guard_ent
  have s_c : (Try.prog.info? 27).map (·.size) = some (crtC kC).toArray.size := by rw [size_crt]; simp [crtC_length kC_ok]
  have o_c : (crtC zeroCrt).toArray.size = (crtC kC).toArray.size := by simp [crtC_length kC_ok, crtC_length zeroCrt_ok]
  have a_c := crt_all kC
  have s_a := szent kA_ok
  have o_a := samez zeroEnt_ok kA_ok
  have a_a := all_of_one (entC_one kA)
  have s_b := szent kB_ok
  have o_b := samez zeroEnt_ok kB_ok
  have a_b := all_of_one (entC_one kB)
  have s_z := szent zeroEnt_ok
  have a_z := all_of_one (entC_one zeroEnt)
  have s_s : ∀ v, (Try.prog.info? 58).map (·.size) = some (stRows v).toArray.size := fun v => by rw [size_st]; simp [stRows_length]
  have o_s : ∀ v, zst.toArray.size = (stRows v).toArray.size := fun v => by simp [stRows_length, zst_length]
  have b_c := built_kC
  have b_a := built_kA
  have b_b := built_kB
  have b_z := built_ent0
  have b_s := built_st0
  have HROW : Hid (∀ v : Value, (stRows v)[66]? = some v) := fun v => by rfl
  obtain ⟨cc, hcc⟩ : ∃ x, (crtC kC).toArray = x := ⟨_, rfl⟩
  obtain ⟨ca, hca⟩ : ∃ x, (entC kA).toArray = x := ⟨_, rfl⟩
  obtain ⟨cb, hcb⟩ : ∃ x, (entC kB).toArray = x := ⟨_, rfl⟩
  obtain ⟨cz, hcz⟩ : ∃ x, (entC zeroEnt).toArray = x := ⟨_, rfl⟩
  obtain ⟨z0, hz0⟩ : ∃ x, (crtC zeroCrt).toArray = x := ⟨_, rfl⟩
  obtain ⟨zs, hzs⟩ : ∃ x, zst.toArray = x := ⟨_, rfl⟩
  rw [hcc] at s_c o_c a_c b_c b_a b_b
  rw [hca] at HJ1 HJ2 HP s_a o_a a_a b_a
  rw [hcb] at HJ1 hq1 s_b o_b a_b b_b
  rw [hcz] at HJ2 HZE hq2 o_a o_b s_z a_z b_z
  rw [hz0] at HZC o_c
  rw [hzs] at HP HZS o_s b_s
  clear hcc hca hcb hcz hz0 hzs
  go_enter Try.func11, Try.ntmps11
  go_wp2_with (first
      | (with_reducible refine arm_build2 (by with_unfolding_all exact rfl) (by with_unfolding_all exact rfl) b_c ?_)
      | (with_reducible refine arm_alloc (HZC.out _) ?_))
  intro gC x1 hb hk hU hz
  change x1.heap[gC]? = some (.cells z0 27 (0, 0)) at hk
  go_wp2_with (with_reducible refine arm_store (by with_unfolding_all exact rfl) (by with_unfolding_all exact rfl) hk s_c o_c a_c ?_)
  intro y1 kC hX hzz
  have hT := hU.fresh hb hX
  have hVy1 : Upd [] w y1 := hT
  clear hb hk hU hz hX hzz hT
  go_upto_region 2 with (fail)
  go_simp
  go_wp2_with (first
      | (with_reducible refine arm_load (by with_unfolding_all exact rfl) kC Try.underlying27 (by with_unfolding_all exact rfl) s_c ?_)
      | (with_reducible refine arm_build2 (by with_unfolding_all exact rfl) (by with_unfolding_all exact rfl) b_a ?_)
      | (with_reducible refine arm_alloc (HZE.out _) ?_))
  intro gA x2 hb hk hU hz
  change x2.heap[gA]? = some (.cells cz 29 (0, 0)) at hk
  go_wp2_with (with_reducible refine arm_store (by with_unfolding_all exact rfl) (by with_unfolding_all exact rfl) hk s_a o_a a_a ?_)
  intro y2 kA hX hzz
  have hT := hU.fresh hb hX
  have kC' := hT.heap kC (by simp)
  clear kC
  have kC := kC'
  clear kC'
  have hVy2 := hVy1.trans hT
  clear hVy1
  clear hb hk hU hz hX hzz hT
  go_upto_region 3 with (fail)
  go_simp
  go_wp2_with (first
      | (with_reducible refine arm_load (by with_unfolding_all exact rfl) kC Try.underlying27 (by with_unfolding_all exact rfl) s_c ?_)
      | (with_reducible refine arm_build2 (by with_unfolding_all exact rfl) (by with_unfolding_all exact rfl) b_b ?_)
      | (with_reducible refine arm_alloc (HZE.out _) ?_))
  intro gB x3 hb hk hU hz
  change x3.heap[gB]? = some (.cells cz 29 (0, 0)) at hk
  go_wp2_with (with_reducible refine arm_store (by with_unfolding_all exact rfl) (by with_unfolding_all exact rfl) hk s_b o_b a_b ?_)
  intro y3 kB hX hzz
  have hT := hU.fresh hb hX
  have kC' := hT.heap kC (by simp)
  clear kC
  have kC := kC'
  clear kC'
  have kA' := hT.heap kA (by simp)
  clear kA
  have kA := kA'
  clear kA'
  have hVy3 := hVy2.trans hT
  clear hVy2
  clear hb hk hU hz hX hzz hT
  go_upto_region 4 with (fail)
  go_simp
  go_wp2_with (first
      | (with_reducible refine arm_load (by with_unfolding_all exact rfl) kA Try.underlying29 (by with_unfolding_all exact rfl) s_a ?_)
      | (with_reducible refine arm_load (by with_unfolding_all exact rfl) kB Try.underlying29 (by with_unfolding_all exact rfl) s_b ?_)
      )
  with_reducible refine (HJ1.out _).mono ?_
  rintro e z4 ⟨rfl, hU⟩
  have kC' := hU.heap kC (by simp)
  clear kC
  have kC := kC'
  clear kC'
  have kA' := hU.heap kA (by simp)
  clear kA
  have kA := kA'
  clear kA'
  have kB' := hU.heap kB (by simp)
  clear kB
  have kB := kB'
  clear kB'
  have hVz4 := hVy3.trans hU
  clear hVy3
  clear hU
  go_wp2_with (first
      | (with_reducible refine arm_alloc (HZE.out _) ?_))
  intro gX x5 hb hk hU hz
  change x5.heap[gX]? = some (.cells cz 29 (0, 0)) at hk
  go_wp2_with (with_reducible refine arm_store (by with_unfolding_all exact rfl) (by with_unfolding_all exact rfl) hk s_b o_b a_b ?_)
  intro y5 kX hX hzz
  have hT := hU.fresh hb hX
  have kC' := hT.heap kC (by simp)
  clear kC
  have kC := kC'
  clear kC'
  have kA' := hT.heap kA (by simp)
  clear kA
  have kA := kA'
  clear kA'
  have kB' := hT.heap kB (by simp)
  clear kB
  have kB := kB'
  clear kB'
  have hVy5 := hVz4.trans hT
  clear hVz4
  clear hb hk hU hz hX hzz hT
  go_upto_region 5 with (fail)
  go_simp
  go_wp2_with (first
      | (with_reducible refine arm_load (by with_unfolding_all exact rfl) kA Try.underlying29 (by with_unfolding_all exact rfl) s_a ?_)
      | (with_reducible refine arm_build0 b_z ?_)
      )
  with_reducible refine (HJ2.out _).mono ?_
  rintro e z6 ⟨rfl, hU⟩
  have kC' := hU.heap kC (by simp)
  clear kC
  have kC := kC'
  clear kC'
  have kA' := hU.heap kA (by simp)
  clear kA
  have kA := kA'
  clear kA'
  have kB' := hU.heap kB (by simp)
  clear kB
  have kB := kB'
  clear kB'
  have kX' := hU.heap kX (by simp)
  clear kX
  have kX := kX'
  clear kX'
  have hVz6 := hVy5.trans hU
  clear hVy5
  clear hU
  go_wp2_with (first
      | (with_reducible refine arm_alloc (HZE.out _) ?_))
  intro gK x7 hb hk hU hz
  change x7.heap[gK]? = some (.cells cz 29 (0, 0)) at hk
  go_wp2_with (with_reducible refine arm_store (by with_unfolding_all exact rfl) (by with_unfolding_all exact rfl) hk s_z rfl a_z ?_)
  intro y7 kK hX hzz
  have hT := hU.fresh hb hX
  have kC' := hT.heap kC (by simp)
  clear kC
  have kC := kC'
  clear kC'
  have kA' := hT.heap kA (by simp)
  clear kA
  have kA := kA'
  clear kA'
  have kB' := hT.heap kB (by simp)
  clear kB
  have kB := kB'
  clear kB'
  have kX' := hT.heap kX (by simp)
  clear kX
  have kX := kX'
  clear kX'
  have hVy7 := hVz6.trans hT
  clear hVz6
  clear hb hk hU hz hX hzz hT
  go_upto_region 6 with (fail)
  go_simp
  go_wp2_with (first
      | (with_reducible refine arm_build0 b_s ?_)
      | (with_reducible refine arm_load (by with_unfolding_all exact rfl) kA Try.underlying29 (by with_unfolding_all exact rfl) s_a ?_)
      )
  with_reducible refine (HP.out _).mono ?_
  rintro e z8 ⟨A, c, rfl, hU⟩
  have kC' := hU.heap kC (by simp)
  clear kC
  have kC := kC'
  clear kC'
  have kA' := hU.heap kA (by simp)
  clear kA
  have kA := kA'
  clear kA'
  have kB' := hU.heap kB (by simp)
  clear kB
  have kB := kB'
  clear kB'
  have kX' := hU.heap kX (by simp)
  clear kX
  have kX := kX'
  clear kX'
  have kK' := hU.heap kK (by simp)
  clear kK
  have kK := kK'
  clear kK'
  have hVz8 := hVy7.trans hU
  clear hVy7
  clear hU
  have s_r := s_s (.slice A 1 c)
  have o_r := o_s (.slice A 1 c)
  have a_r := all_of_one (stRows_one A 1 c)
  have HRW := Lib.hid (HROW.out (.slice A 1 c))
  obtain ⟨sr, hsr⟩ : ∃ x, stRows (.slice A 1 c) = x := ⟨_, rfl⟩
  rw [hsr] at s_r o_r a_r HRW ⊢
  clear hsr s_s o_s HROW
  go_wp2_with (first
      | (with_reducible refine arm_alloc (HZS.out _) ?_))
  intro gS x9 hb hk hU hz
  change x9.heap[gS]? = some (.cells zs 58 (0, 0)) at hk
  go_wp2_with (with_reducible refine arm_store (by with_unfolding_all exact rfl) (by with_unfolding_all exact rfl) hk s_r o_r a_r ?_)
  intro y9 kS hX hzz
  have hT := hU.fresh hb hX
  have kC' := hT.heap kC (by simp)
  clear kC
  have kC := kC'
  clear kC'
  have kA' := hT.heap kA (by simp)
  clear kA
  have kA := kA'
  clear kA'
  have kB' := hT.heap kB (by simp)
  clear kB
  have kB := kB'
  clear kB'
  have kX' := hT.heap kX (by simp)
  clear kX
  have kX := kX'
  clear kX'
  have kK' := hT.heap kK (by simp)
  clear kK
  have kK := kK'
  clear kK'
  have hVy9 := hVz8.trans hT
  clear hVz8
  clear hb hk hU hz hX hzz hT
  have HQX : Hid (∀ W, Upd [] y9 W → ∃ t fr, W.heap[gX]? = some (.cells cb t fr)) := fun W hW => ⟨_, _, hW.heap kX (by simp)⟩
  have HQB : Hid (∀ W, Upd [] y9 W → ∃ t fr, W.heap[gB]? = some (.cells cb t fr)) := fun W hW => ⟨_, _, hW.heap kB (by simp)⟩
  have HQK : Hid (∀ W, Upd [] y9 W → ∃ t fr, W.heap[gK]? = some (.cells cz t fr)) := fun W hW => ⟨_, _, hW.heap kK (by simp)⟩
  have cS : y9.cell? ⟨gS, 66, none⟩ = some (.slice A 1 c) := by rw [cell_of_row _ _ _ _ _ _ kS]; simpa using HRW.out
  go_upto_region 7 with (fail)
  go_simp
  go_wp2_with (first
      | (with_reducible refine arm_load_g (by with_unfolding_all exact rfl) (by with_unfolding_all exact rfl) kX Try.underlying29 (by with_unfolding_all exact rfl) s_b ?_)
      | (with_reducible refine arm_load_g (by with_unfolding_all exact rfl) (by with_unfolding_all exact rfl) kB Try.underlying29 (by with_unfolding_all exact rfl) s_b ?_)
      | (with_reducible refine arm_load_g (by with_unfolding_all exact rfl) (by with_unfolding_all exact rfl) kK Try.underlying29 (by with_unfolding_all exact rfl) s_z ?_)
      | (with_reducible refine arm_build0_g (by with_unfolding_all exact rfl) b_z ?_))
  go_ret
  exact ⟨rfl, hVy9⟩
end Go.Proofs.Ytjoliagnhmfdiaa
