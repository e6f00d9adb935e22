/-
  The law MerkleBinds: who is taken in has broken the hash.
-/
import Derived.Test.YtdfoffheolbokaaDoorClimbed
import Derived.Test.YtdfoffheolbokaaDoorEnds
import Derived.Test.YtdfoffheolbokaaDoorSameH
import Derived.Test.YtdfoffheolbokaaDoorEqPair
import Derived.Test.YtdfoffheolbokaaDoorCheckAny
namespace Go.Proofs.YtdfoffheolbokaaDoor
open Go Go.RowKit Go.Proofs
theorem guard_p64 (op : BinOp) (x y : Operand) (A B : Array Value) (w : World) : (eqGuard op 48 x y (.agg A) (.agg B)).run Tryd.prog w = .ok () w := run_eqGuard_agg w op _ x y A B (by kernel_rfl)
theorem range_append {w : World} {g o : Nat} {l m : List Value} (h1 : w.rangeAt g o l) (h2 : w.rangeAt g (o + l.length) m) : w.rangeAt g o (l ++ m) := by
  intro j v hj
  by_cases h : j < l.length
  · rw [List.getElem?_append_left h] at hj; exact h1 j v hj
  · rw [List.getElem?_append_right (by omega)] at hj
    have := h2 (j - l.length) v hj
    rwa [show o + l.length + (j - l.length) = o + j by omega] at this
theorem OwnP.pair {w : World} {B g cap n : Nat} {ps : List (H8 × H8)} (h : OwnP w B (.slice (some ⟨g, 0, none⟩) n cap) ps) (i : Nat) (hi : i < ps.length) : w.rangeAt g (i * 64) ((ps[i].1 ++ ps[i].2).map U8) := by
  obtain ⟨h1, h2, r1, r2⟩ := h.elem i hi
  rw [List.map_append]
  exact range_append r1 (by rw [List.length_map, h1]; exact r2)
theorem szlist64 {l : List (BitVec 8)} (h : l.length = 64) : (Tryd.prog.info? 48).map (·.size) = some (l.map U8).length := by simp only [List.length_map, h]; kernel_rfl
set_option maxRecDepth 100000 in
set_option maxHeartbeats 6400000 in
theorem binds_bad (w : World) (ca cb ct : Array Value) (A D : Option Addr) (m c m2 c2 : Nat) (i n : Int) (hsa : (Tryd.prog.info? 27).map (·.size) = some ca.size) (hst : (Tryd.prog.info? 27).map (·.size) = some ct.size) (hbad : n < 1 ∨ n > 65536 ∨ i < 0 ∨ n ≤ i) :
    Calls Tryd.prog 6 #[.agg ca, .slice A m c, .agg cb, .slice D m2 c2, .int .i64 i, .int .i64 n, .agg ct] w fun e w' => e = .returned (.bool true) ∧ Upd [] w w' := by
  have HCK : Hid (∀ W, Calls Tryd.prog 21 #[.agg ca, .int .i64 i, .int .i64 n, .slice A m c, .agg ct] W fun e w' => e = .returned (.bool false) ∧ Upd [] W w') := fun W => checkI_bad W ca ct i n _ (by omega)
  by_cases h1 : n < 1
  · have d1 : decide (n < 1) = true := by simp; omega
    clear hbad
    go_enter Tryd.func6, Tryd.ntmps6
    go_wp2_with (with_reducible refine arm_box (by with_unfolding_all exact rfl) ?_)
    intro b7 w7 hb7 k7 hU7 hz7
    change w7.heap[b7]? = some (.cells ca 27 (0, 0)) at k7
    go_wp2_with (with_reducible refine arm_box (by with_unfolding_all exact rfl) ?_)
    intro b9 w9 hb9 k9 hU9 hz9
    change w9.heap[b9]? = some (.cells cb 27 (0, 0)) at k9
    have k79 := hU9.heap k7 (by simp)
    have hV9 := hU7.trans hU9
    go_wp2_with (with_reducible refine arm_box (by with_unfolding_all exact rfl) ?_)
    intro b13 w13 hb13 k13 hU13 hz13
    change w13.heap[b13]? = some (.cells ct 27 (0, 0)) at k13
    clear k7
    have k7 := hU13.heap k79 (by simp)
    clear k79
    have k9' := hU13.heap k9 (by simp)
    clear k9
    have k9 := k9'
    clear k9'
    have hV13 := hV9.trans hU13
    clear hb7 hU7 hz7 hb9 hU9 hz9 hb13 hU13 hz13 hV9
    go_wp2_with (first
      | (with_reducible refine arm_load (by with_unfolding_all exact rfl) k7 Tryd.underlying27 (by with_unfolding_all exact rfl) hsa ?_)
      | (with_reducible refine arm_load (by with_unfolding_all exact rfl) k13 Tryd.underlying27 (by with_unfolding_all exact rfl) hst ?_))
    with_reducible refine (HCK.out _).mono ?_
    rintro e w14 ⟨rfl, hU14⟩
    go_wp2_with (fail)
    go_ret
    exact ⟨rfl, hV13.trans hU14⟩
  by_cases h2 : n > 65536
  · have d1 : decide (n < 1) = false := by simp; omega
    have d2 : decide (n > 65536) = true := by simp; omega
    clear hbad
    go_enter Tryd.func6, Tryd.ntmps6
    go_wp2_with (with_reducible refine arm_box (by with_unfolding_all exact rfl) ?_)
    intro b7 w7 hb7 k7 hU7 hz7
    change w7.heap[b7]? = some (.cells ca 27 (0, 0)) at k7
    go_wp2_with (with_reducible refine arm_box (by with_unfolding_all exact rfl) ?_)
    intro b9 w9 hb9 k9 hU9 hz9
    change w9.heap[b9]? = some (.cells cb 27 (0, 0)) at k9
    have k79 := hU9.heap k7 (by simp)
    have hV9 := hU7.trans hU9
    go_wp2_with (with_reducible refine arm_box (by with_unfolding_all exact rfl) ?_)
    intro b13 w13 hb13 k13 hU13 hz13
    change w13.heap[b13]? = some (.cells ct 27 (0, 0)) at k13
    clear k7
    have k7 := hU13.heap k79 (by simp)
    clear k79
    have k9' := hU13.heap k9 (by simp)
    clear k9
    have k9 := k9'
    clear k9'
    have hV13 := hV9.trans hU13
    clear hb7 hU7 hz7 hb9 hU9 hz9 hb13 hU13 hz13 hV9
    go_wp2_with (first
      | (with_reducible refine arm_load (by with_unfolding_all exact rfl) k7 Tryd.underlying27 (by with_unfolding_all exact rfl) hsa ?_)
      | (with_reducible refine arm_load (by with_unfolding_all exact rfl) k13 Tryd.underlying27 (by with_unfolding_all exact rfl) hst ?_))
    with_reducible refine (HCK.out _).mono ?_
    rintro e w14 ⟨rfl, hU14⟩
    go_wp2_with (fail)
    go_ret
    exact ⟨rfl, hV13.trans hU14⟩
  by_cases h3 : i < 0
  · have d1 : decide (n < 1) = false := by simp; omega
    have d2 : decide (n > 65536) = false := by simp; omega
    have d3 : decide (i < 0) = true := by simp; omega
    clear hbad
    go_enter Tryd.func6, Tryd.ntmps6
    go_wp2_with (with_reducible refine arm_box (by with_unfolding_all exact rfl) ?_)
    intro b7 w7 hb7 k7 hU7 hz7
    change w7.heap[b7]? = some (.cells ca 27 (0, 0)) at k7
    go_wp2_with (with_reducible refine arm_box (by with_unfolding_all exact rfl) ?_)
    intro b9 w9 hb9 k9 hU9 hz9
    change w9.heap[b9]? = some (.cells cb 27 (0, 0)) at k9
    have k79 := hU9.heap k7 (by simp)
    have hV9 := hU7.trans hU9
    go_wp2_with (with_reducible refine arm_box (by with_unfolding_all exact rfl) ?_)
    intro b13 w13 hb13 k13 hU13 hz13
    change w13.heap[b13]? = some (.cells ct 27 (0, 0)) at k13
    clear k7
    have k7 := hU13.heap k79 (by simp)
    clear k79
    have k9' := hU13.heap k9 (by simp)
    clear k9
    have k9 := k9'
    clear k9'
    have hV13 := hV9.trans hU13
    clear hb7 hU7 hz7 hb9 hU9 hz9 hb13 hU13 hz13 hV9
    go_wp2_with (first
      | (with_reducible refine arm_load (by with_unfolding_all exact rfl) k7 Tryd.underlying27 (by with_unfolding_all exact rfl) hsa ?_)
      | (with_reducible refine arm_load (by with_unfolding_all exact rfl) k13 Tryd.underlying27 (by with_unfolding_all exact rfl) hst ?_))
    with_reducible refine (HCK.out _).mono ?_
    rintro e w14 ⟨rfl, hU14⟩
    go_wp2_with (fail)
    go_ret
    exact ⟨rfl, hV13.trans hU14⟩
  have d1 : decide (n < 1) = false := by simp; omega
  have d2 : decide (n > 65536) = false := by simp; omega
  have d3 : decide (i < 0) = false := by simp; omega
  have d4 : decide (i ≥ n) = true := by simp; omega
  clear hbad
  go_enter Tryd.func6, Tryd.ntmps6
  go_wp2_with (with_reducible refine arm_box (by with_unfolding_all exact rfl) ?_)
  intro b7 w7 hb7 k7 hU7 hz7
  change w7.heap[b7]? = some (.cells ca 27 (0, 0)) at k7
  go_wp2_with (with_reducible refine arm_box (by with_unfolding_all exact rfl) ?_)
  intro b9 w9 hb9 k9 hU9 hz9
  change w9.heap[b9]? = some (.cells cb 27 (0, 0)) at k9
  have k79 := hU9.heap k7 (by simp)
  have hV9 := hU7.trans hU9
  go_wp2_with (with_reducible refine arm_box (by with_unfolding_all exact rfl) ?_)
  intro b13 w13 hb13 k13 hU13 hz13
  change w13.heap[b13]? = some (.cells ct 27 (0, 0)) at k13
  clear k7
  have k7 := hU13.heap k79 (by simp)
  clear k79
  have k9' := hU13.heap k9 (by simp)
  clear k9
  have k9 := k9'
  clear k9'
  have hV13 := hV9.trans hU13
  clear hb7 hU7 hz7 hb9 hU9 hz9 hb13 hU13 hz13 hV9
  go_wp2_with (first
    | (with_reducible refine arm_load (by with_unfolding_all exact rfl) k7 Tryd.underlying27 (by with_unfolding_all exact rfl) hsa ?_)
    | (with_reducible refine arm_load (by with_unfolding_all exact rfl) k13 Tryd.underlying27 (by with_unfolding_all exact rfl) hst ?_))
  with_reducible refine (HCK.out _).mono ?_
  rintro e w14 ⟨rfl, hU14⟩
  go_wp2_with (fail)
  go_ret
  exact ⟨rfl, hV13.trans hU14⟩
set_option maxRecDepth 100000 in
set_option maxHeartbeats 6400000 in
theorem binds_long (w : World) (ca cb ct : Array Value) (A D : Option Addr) (m c m2 c2 : Nat) (i n : Nat) (T : Bool) (hsa : (Tryd.prog.info? 27).map (·.size) = some ca.size) (hst : (Tryd.prog.info? 27).map (·.size) = some ct.size) (hi : i < n) (hn : n ≤ 65536) (hbad : 200 < m ∨ 200 < m2)
    (HCK : Hid (∀ W, Upd [] w W → Calls Tryd.prog 21 #[.agg ca, .int .i64 i, .int .i64 n, .slice A m c, .agg ct] W fun e w' => e = .returned (.bool T) ∧ Upd [] W w')) :
    Calls Tryd.prog 6 #[.agg ca, .slice A m c, .agg cb, .slice D m2 c2, .int .i64 i, .int .i64 n, .agg ct] w fun e w' => e = .returned (.bool true) ∧ Upd [] w w' := by
  have d1 : decide ((n : Int) < 1) = false := by simp; omega
  have d2 : decide ((n : Int) > 65536) = false := by simp; omega
  have d3 : decide ((i : Int) < 0) = false := by simp
  have d4 : decide ((i : Int) ≥ (n : Int)) = false := by simp; omega
  have d4n : decide (n ≤ i) = false := by simp; omega
  have d8n : decide (i < n) = true := by simp; omega
  have d5 : decide ((n : Int) ≥ 1) = true := by simp; omega
  have d6 : decide ((n : Int) ≤ 65536) = true := by simp; omega
  have d7 : decide ((i : Int) ≥ 0) = true := by simp
  have d8 : decide ((i : Int) < (n : Int)) = true := by simp; omega
  by_cases h1 : 200 < m
  · have e1 : decide ((m : Int) > 200) = true := by simp; omega
    clear hbad hi hn
    go_enter Tryd.func6, Tryd.ntmps6
    go_wp2_with (with_reducible refine arm_box (by with_unfolding_all exact rfl) ?_)
    intro b7 w7 hb7 k7 hU7 hz7
    change w7.heap[b7]? = some (.cells ca 27 (0, 0)) at k7
    go_wp2_with (with_reducible refine arm_box (by with_unfolding_all exact rfl) ?_)
    intro b9 w9 hb9 k9 hU9 hz9
    change w9.heap[b9]? = some (.cells cb 27 (0, 0)) at k9
    have k79 := hU9.heap k7 (by simp)
    have hV9 := hU7.trans hU9
    go_wp2_with (with_reducible refine arm_box (by with_unfolding_all exact rfl) ?_)
    intro b13 w13 hb13 k13 hU13 hz13
    change w13.heap[b13]? = some (.cells ct 27 (0, 0)) at k13
    clear k7
    have k7 := hU13.heap k79 (by simp)
    clear k79
    have k9' := hU13.heap k9 (by simp)
    clear k9
    have k9 := k9'
    clear k9'
    have hV13 := hV9.trans hU13
    clear hb7 hU7 hz7 hb9 hU9 hz9 hb13 hU13 hz13 hV9
    go_wp2_with (first
      | (with_reducible refine arm_load (by with_unfolding_all exact rfl) k7 Tryd.underlying27 (by with_unfolding_all exact rfl) hsa ?_)
      | (with_reducible refine arm_load (by with_unfolding_all exact rfl) k13 Tryd.underlying27 (by with_unfolding_all exact rfl) hst ?_))
    with_reducible refine (HCK.out _ hV13).mono ?_
    rintro e w14 ⟨rfl, hU14⟩
    cases T
    · go_wp2_with (fail)
      go_ret
      exact ⟨rfl, hV13.trans hU14⟩
    · go_wp2_with (fail)
      go_ret
      exact ⟨rfl, hV13.trans hU14⟩
  have e1 : decide ((m : Int) > 200) = false := by simp; omega
  have e2 : decide ((m2 : Int) > 200) = true := by simp; omega
  clear hbad hi hn
  go_enter Tryd.func6, Tryd.ntmps6
  go_wp2_with (with_reducible refine arm_box (by with_unfolding_all exact rfl) ?_)
  intro b7 w7 hb7 k7 hU7 hz7
  change w7.heap[b7]? = some (.cells ca 27 (0, 0)) at k7
  go_wp2_with (with_reducible refine arm_box (by with_unfolding_all exact rfl) ?_)
  intro b9 w9 hb9 k9 hU9 hz9
  change w9.heap[b9]? = some (.cells cb 27 (0, 0)) at k9
  have k79 := hU9.heap k7 (by simp)
  have hV9 := hU7.trans hU9
  go_wp2_with (with_reducible refine arm_box (by with_unfolding_all exact rfl) ?_)
  intro b13 w13 hb13 k13 hU13 hz13
  change w13.heap[b13]? = some (.cells ct 27 (0, 0)) at k13
  clear k7
  have k7 := hU13.heap k79 (by simp)
  clear k79
  have k9' := hU13.heap k9 (by simp)
  clear k9
  have k9 := k9'
  clear k9'
  have hV13 := hV9.trans hU13
  clear hb7 hU7 hz7 hb9 hU9 hz9 hb13 hU13 hz13 hV9
  go_wp2_with (first
    | (with_reducible refine arm_load (by with_unfolding_all exact rfl) k7 Tryd.underlying27 (by with_unfolding_all exact rfl) hsa ?_)
    | (with_reducible refine arm_load (by with_unfolding_all exact rfl) k13 Tryd.underlying27 (by with_unfolding_all exact rfl) hst ?_))
  with_reducible refine (HCK.out _ hV13).mono ?_
  rintro e w14 ⟨rfl, hU14⟩
  cases T
  · go_wp2_with (fail)
    go_ret
    exact ⟨rfl, hV13.trans hU14⟩
  · go_wp2_with (fail)
    go_ret
    exact ⟨rfl, hV13.trans hU14⟩
end Go.Proofs.YtdfoffheolbokaaDoor
