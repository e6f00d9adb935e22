/-
  The greater of two marks, of two seals.
-/
import Derived.Test.YtjoliagnhmfdiaaMark
import Derived.Test.YtjoliagnhmfdiaaSpec
namespace Go.Proofs.Ytjoliagnhmfdiaa
open Go Go.RowKit Go.Proofs
theorem size_mark : (Try.prog.info? 42).map (·.size) = some 33 := by kernel_rfl
def zmark : Array Value := #[Value.int .i64 0] ++ zrow8 32
theorem zero_mark (w : World) : (zeroValue 42).run Try.prog w = .ok (.agg zmark) w := by kernel_rfl
theorem markC_length {i : Int} {v : List (BitVec 8)} (h : v.length = 32) : (markC i v).length = 33 := by simp [markC, h]
theorem markC_all (i : Int) (v : List (BitVec 8)) : (markC i v).toArray.all (·.oneCell') = true := by
  rw [Array.all_eq_true]
  intro k hk
  have : ∀ u ∈ markC i v, u.oneCell' = true := by
    intro u hu
    rcases List.mem_cons.1 hu with rfl | hu
    · rfl
    · obtain ⟨b, _, rfl⟩ := List.mem_map.1 hu; rfl
  exact this _ (by simp)
set_option maxRecDepth 100000 in
set_option maxHeartbeats 1600000 in
theorem greater_m (w : World) (i j : Int) (v u : List (BitVec 8)) (hv : v.length = 32) (hu : u.length = 32) :
    Calls Try.prog 12 #[.agg (markC i v).toArray, .agg (markC j u).toArray, .func (.func 13) #[.agg (markC i v).toArray] #[]] w fun e w' => e = .returned (.agg (if cmpM i v j u < 0 then markC j u else markC i v).toArray) ∧ Upd [] w w' := by
  have HC : Hid (∀ W, Calls Try.prog 13 #[.agg (markC i v).toArray, .agg (markC j u).toArray] W fun e w' => e = .returned (.int .i64 (cmpM i v j u)) ∧ Upd [] W w') := fun W => mcompare_ W i j v u hv hu
  have hs1 : (Try.prog.info? 42).map (·.size) = some (markC i v).toArray.size := by rw [size_mark]; simp [markC_length hv]
  have hs2 : (Try.prog.info? 42).map (·.size) = some (markC j u).toArray.size := by rw [size_mark]; simp [markC_length hu]
  have ho1 : zmark.size = (markC i v).toArray.size := by simp [zmark, zrow8_size, markC_length hv]
  have ho2 : zmark.size = (markC j u).toArray.size := by simp [zmark, zrow8_size, markC_length hu]
  have ha1 := markC_all i v
  have ha2 := markC_all j u
  obtain ⟨c1, hc1⟩ : ∃ c, (markC i v).toArray = c := ⟨_, rfl⟩
  obtain ⟨c2, hc2⟩ : ∃ c, (markC j u).toArray = c := ⟨_, rfl⟩
  rw [hc1] at hs1 ho1 ha1
  rw [hc2] at hs2 ho2 ha2
  rw [hc1, hc2] at HC
  have HR : Hid ((if cmpM i v j u < 0 then markC j u else markC i v).toArray = if cmpM i v j u < 0 then c2 else c1) := by
    show _ = _
    rw [← hc1, ← hc2]
    split <;> rfl
  obtain ⟨R, hR⟩ : ∃ c, (if cmpM i v j u < 0 then markC j u else markC i v).toArray = c := ⟨_, rfl⟩
  rw [hR] at HR ⊢
  rw [hc1, hc2]
  obtain ⟨M, hM⟩ : ∃ M, cmpM i v j u = M := ⟨_, rfl⟩
  rw [hM] at HC HR
  clear hc1 hc2 hR hM
  by_cases h : M < 0
  · have hd : decide (M < 0) = true := by simpa using h
    have hr : R = c2 := by have := HR.out; rwa [if_pos h] at this
    subst hr
    go_enter Try.func12, Try.ntmps12
    go_wp2_with (with_reducible refine arm_box (by with_unfolding_all exact rfl) ?_)
    intro b3 w3 hb3 k3 hU3 hz3
    change w3.heap[b3]? = some (.cells c1 42 (0, 0)) at k3
    go_wp2_with (with_reducible refine arm_box (by with_unfolding_all exact rfl) ?_)
    intro b4 w4 hb4 k4 hU4 hz4
    change w4.heap[b4]? = some (.cells R 42 (0, 0)) at k4
    have k34 := hU4.heap k3 (by simp)
    go_wp2_with (with_reducible refine arm_alloc (zero_mark _) ?_)
    intro b6 w6 hb6 k6 hU6 hz6
    change w6.heap[b6]? = some (.cells zmark 42 (0, 0)) at k6
    have k46 := hU6.heap k4 (by simp)
    go_wp2_with (with_reducible refine arm_load (by with_unfolding_all exact rfl) k46 Try.underlying42 (by with_unfolding_all exact rfl) hs2 ?_)
    with_reducible refine (HC.out _).mono ?_
    rintro e w7 ⟨rfl, hU7⟩
    have k47 := hU7.heap k46 (by simp)
    have k67 := hU7.heap k6 (by simp)
    have k37 := hU7.heap (hU6.heap k34 (by simp)) (by simp)
    have hV7 := ((hU3.trans hU4).trans hU6).trans hU7
    have hl6 : w.heap.size ≤ b6 := by have h1 := hU3.size; have h2 := hU4.size; omega
    clear hb3 k3 hU3 hz3 hb4 k4 hU4 hz4 k34 hb6 k6 hU6 hz6 k46 hU7
    go_wp2_with (first
      | (with_reducible refine arm_load (by with_unfolding_all exact rfl) k47 Try.underlying42 (by with_unfolding_all exact rfl) hs2 ?_)
      | (with_reducible refine arm_store (by with_unfolding_all exact rfl) (by with_unfolding_all exact rfl) k67 hs2 ho2 ha2 ?_))
    intro w8 k8 hX8 hz8
    go_wp2_with (fail)
    refine bodyPost_ret (v := .agg R) (results_cell_row rfl _ _ b6 42 _ (0, 0) _ rfl k8 Try.underlying42 rfl hs2) rfl ⟨rfl, ?_⟩
    exact hV7.trans' hX8 (fun i hm hi => by simp at hm; omega)
  · have hd : decide (M < 0) = false := by simpa using h
    have hr : R = c1 := by have := HR.out; rwa [if_neg h] at this
    subst hr
    go_enter Try.func12, Try.ntmps12
    go_wp2_with (with_reducible refine arm_box (by with_unfolding_all exact rfl) ?_)
    intro b3 w3 hb3 k3 hU3 hz3
    change w3.heap[b3]? = some (.cells R 42 (0, 0)) at k3
    go_wp2_with (with_reducible refine arm_box (by with_unfolding_all exact rfl) ?_)
    intro b4 w4 hb4 k4 hU4 hz4
    change w4.heap[b4]? = some (.cells c2 42 (0, 0)) at k4
    have k34 := hU4.heap k3 (by simp)
    go_wp2_with (with_reducible refine arm_alloc (zero_mark _) ?_)
    intro b6 w6 hb6 k6 hU6 hz6
    change w6.heap[b6]? = some (.cells zmark 42 (0, 0)) at k6
    have k46 := hU6.heap k4 (by simp)
    go_wp2_with (with_reducible refine arm_load (by with_unfolding_all exact rfl) k46 Try.underlying42 (by with_unfolding_all exact rfl) hs2 ?_)
    with_reducible refine (HC.out _).mono ?_
    rintro e w7 ⟨rfl, hU7⟩
    have k47 := hU7.heap k46 (by simp)
    have k67 := hU7.heap k6 (by simp)
    have k37 := hU7.heap (hU6.heap k34 (by simp)) (by simp)
    have hV7 := ((hU3.trans hU4).trans hU6).trans hU7
    have hl6 : w.heap.size ≤ b6 := by have h1 := hU3.size; have h2 := hU4.size; omega
    clear hb3 k3 hU3 hz3 hb4 k4 hU4 hz4 k34 hb6 k6 hU6 hz6 k46 hU7
    go_wp2_with (first
      | (with_reducible refine arm_load (by with_unfolding_all exact rfl) k37 Try.underlying42 (by with_unfolding_all exact rfl) hs1 ?_)
      | (with_reducible refine arm_store (by with_unfolding_all exact rfl) (by with_unfolding_all exact rfl) k67 hs1 ho1 ha1 ?_))
    intro w8 k8 hX8 hz8
    go_wp2_with (fail)
    refine bodyPost_ret (v := .agg R) (results_cell_row rfl _ _ b6 42 _ (0, 0) _ rfl k8 Try.underlying42 rfl hs1) rfl ⟨rfl, ?_⟩
    exact hV7.trans' hX8 (fun i hm hi => by simp at hm; omega)
end Go.Proofs.Ytjoliagnhmfdiaa
