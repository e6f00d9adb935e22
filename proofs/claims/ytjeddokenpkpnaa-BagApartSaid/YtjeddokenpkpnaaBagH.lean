/-
  Double, Get, Take of a bag.
-/
import Derived.Test.YtjeddokenpkpnaaBagG
namespace Go.Proofs.Ytjeddokenpkpnaa
open Go Go.RowKit Go.Proofs Go.Maps
set_option maxRecDepth 100000 in
theorem double_ (w : World) (lo bb bm last : Nat) (es : List Ent) (D : DataW Value) (h : BagAt w lo bb bm last es D) (id : Int) (hid : wfI id) (y : Ent) (hf : findE es id = some y) (hlast : last ≤ 100000) (hroom : es.length < 4096) :
    Calls Try.prog 28 #[.pointer (some ⟨bb, 0, none⟩), .int .i64 id] w (Laid w lo bb bm last es y.fr y.to y.b) := by
  have c0 : w.cell? ⟨bb, 0, none⟩ = some (.map (some bm)) := by rw [cell_of_row _ _ _ _ _ _ h.cells]; rfl
  have hm := h.map
  have hhas : Maps.has D (.int .i64 id) = true := by rw [h.of.has, hf]; rfl
  have hat := h.of.val id y (DataW.held (.agg (msgC 0 0 0 (.slice none 0 0)))) hf
  unfold Ent.cells at hat
  have hz := size_msg 0 0 0 (.slice none 0 0)
  have hlt : Hid (∃ A c, y.v = .slice A y.b.length c) := by obtain ⟨A, c, e, _⟩ := (h.rows y (findE_some hf).1).rd.isSlice; exact ⟨_, _, e⟩
  have hvo : y.v.oneCell' = true := by obtain ⟨A, c, e⟩ := hlt.out; rw [e]; rfl
  have hsy := size_msg y.id y.fr y.to y.v
  have hoy := one_msg y.id y.fr y.to hvo
  have HRD : Hid (RdB w y.v y.b ∧ y.b.length ≤ 1024) := ⟨(h.rows y (findE_some hf).1).rd, h.short y (findE_some hf).1⟩
  have H := Lib.hid h
  have HR := Lib.hid hroom
  have HLA := Lib.hid hlast
  clear hlast
  clear h hroom hvo
  go_enter Try.func28, Try.ntmps28
  go_wp2_with (first
    | (at_lookup; refine arm_look rfl _ _ rfl bm es.length D (by with_unfolding_all exact rfl) hm id hid (by with_unfolding_all exact rfl) _ hat _ hhas ?_)
    | (with_reducible refine arm_alloc (zero_msg _) ?_))
  intro b2 w2 hb2 k2 hU2 hz2
  change w2.heap[b2]? = some (.cells (msgC 0 0 0 (.slice none 0 0)) 32 (0, 0)) at k2
  have HU2 := Lib.hid hU2
  have HLB : Hid (w.heap.size ≤ b2) := by show w.heap.size ≤ b2; omega
  clear hb2 hU2 hz2 hhas hat hm c0
  go_wp2_with (with_reducible refine arm_store (by with_unfolding_all exact rfl) (by with_unfolding_all exact rfl) k2 hsy (by with_unfolding_all exact rfl) hoy ?_)
  intro w3 k3 hX3 hz3
  have HU3 : Hid (Upd [] w w3) := HU2.out.trans' hX3 (fun i hm hl => by have := List.mem_singleton.1 hm; have := HLB.out; omega)
  clear k2 hX3 hz3
  go_wp2_with (with_reducible refine arm_load (by with_unfolding_all exact rfl) k3 Try.underlying32 (by with_unfolding_all exact rfl) hsy ?_)
  refine (add_ _ lo bb bm last es D (H.out.upd0 HU3.out) y.id y.fr y.to y.v y.b (HRD.out.1.upd0 HU3.out) HRD.out.2 HLA.out HR.out).mono ?_
  rintro e w4 ⟨v', D', rfl, hB3, hn3, hU3⟩
  have HB3 := Lib.hid hB3
  have HN3 := Lib.hid hn3
  have HU4 := Lib.hid hU3
  clear hB3 hn3 hU3 k3
  go_wp2_with (fail)
  refine bodyPost_ret (results_tmp2 rfl _ _ _) rfl ?_
  exact Laid.of ⟨v', D', rfl, HB3.out, HN3.out, HU4.out⟩ HU3.out
set_option maxRecDepth 100000 in
theorem double_full (w : World) (lo bb bm last : Nat) (es : List Ent) (D : DataW Value) (h : BagAt w lo bb bm last es D) (id : Int) (hid : wfI id) (y : Ent) (hf : findE es id = some y) (hroom : es.length = 4096) :
    Calls Try.prog 28 #[.pointer (some ⟨bb, 0, none⟩), .int .i64 id] w fun e w' => e = .returned (.tuple #[.int .i64 0, .int .i64 241]) ∧ Upd [] w w' := by
  have c0 : w.cell? ⟨bb, 0, none⟩ = some (.map (some bm)) := by rw [cell_of_row _ _ _ _ _ _ h.cells]; rfl
  have hm := h.map
  have hhas : Maps.has D (.int .i64 id) = true := by rw [h.of.has, hf]; rfl
  have hat := h.of.val id y (DataW.held (.agg (msgC 0 0 0 (.slice none 0 0)))) hf
  unfold Ent.cells at hat
  have hz := size_msg 0 0 0 (.slice none 0 0)
  have hlt : Hid (∃ A c, y.v = .slice A y.b.length c) := by obtain ⟨A, c, e, _⟩ := (h.rows y (findE_some hf).1).rd.isSlice; exact ⟨_, _, e⟩
  have hvo : y.v.oneCell' = true := by obtain ⟨A, c, e⟩ := hlt.out; rw [e]; rfl
  have hsy := size_msg y.id y.fr y.to y.v
  have hoy := one_msg y.id y.fr y.to hvo
  have HRD : Hid (RdB w y.v y.b ∧ y.b.length ≤ 1024) := ⟨(h.rows y (findE_some hf).1).rd, h.short y (findE_some hf).1⟩
  have H := Lib.hid h
  have HR := Lib.hid hroom
  clear h hroom hvo
  go_enter Try.func28, Try.ntmps28
  go_wp2_with (first
    | (at_lookup; refine arm_look rfl _ _ rfl bm es.length D (by with_unfolding_all exact rfl) hm id hid (by with_unfolding_all exact rfl) _ hat _ hhas ?_)
    | (with_reducible refine arm_alloc (zero_msg _) ?_))
  intro b2 w2 hb2 k2 hU2 hz2
  change w2.heap[b2]? = some (.cells (msgC 0 0 0 (.slice none 0 0)) 32 (0, 0)) at k2
  have HU2 := Lib.hid hU2
  have HLB : Hid (w.heap.size ≤ b2) := by show w.heap.size ≤ b2; omega
  clear hb2 hU2 hz2 hhas hat hm c0
  go_wp2_with (with_reducible refine arm_store (by with_unfolding_all exact rfl) (by with_unfolding_all exact rfl) k2 hsy (by with_unfolding_all exact rfl) hoy ?_)
  intro w3 k3 hX3 hz3
  have HU3 : Hid (Upd [] w w3) := HU2.out.trans' hX3 (fun i hm hl => by have := List.mem_singleton.1 hm; have := HLB.out; omega)
  clear k2 hX3 hz3
  go_wp2_with (with_reducible refine arm_load (by with_unfolding_all exact rfl) k3 Try.underlying32 (by with_unfolding_all exact rfl) hsy ?_)
  refine (add_full _ lo bb bm last es D (H.out.upd0 HU3.out) y.id y.fr y.to y.v HR.out).mono ?_
  rintro e w4 ⟨rfl, hU4⟩
  have HU4 := Lib.hid hU4
  clear hU4 k3
  go_wp2_with (fail)
  refine bodyPost_ret (results_tmp2 rfl _ _ _) rfl ?_
  exact ⟨rfl, HU3.out.trans HU4.out⟩
set_option maxRecDepth 100000 in
theorem get_none (w : World) (lo bb bm last : Nat) (es : List Ent) (D : DataW Value) (h : BagAt w lo bb bm last es D) (id : Int) (hid : wfI id) (hf : findE es id = none) :
    Calls Try.prog 25 #[.pointer (some ⟨bb, 0, none⟩), .int .i64 id] w fun e w' => ∃ v', e = .returned (.tuple #[.agg (msgC 0 0 0 v'), .bool false]) ∧ OwnB w' w.heap.size v' [] ∧ Upd [] w w' := by
  have c0 : w.cell? ⟨bb, 0, none⟩ = some (.map (some bm)) := by rw [cell_of_row _ _ _ _ _ _ h.cells]; rfl
  have hm := h.map
  have hhas : Maps.has D (.int .i64 id) = false := by rw [h.of.has, hf]; rfl
  have hat := atKey_of_not_has hhas (DataW.held (.agg (msgC 0 0 0 (.slice none 0 0))))
  have hz := size_msg 0 0 0 (.slice none 0 0)
  clear h
  go_enter Try.func25, Try.ntmps25
  go_wp2_with (with_reducible refine arm_alloc (zero_msg _) ?_)
  intro b1 w1 hb1 k1 hU1 hz1
  change w1.heap[b1]? = some (.cells (msgC 0 0 0 (.slice none 0 0)) 32 (0, 0)) at k1
  have c1 := hU1.cell c0 (by simp)
  have hm1 := own_map_upd hm hU1 (by simp)
  have HLB1 : Hid (w.heap.size ≤ b1) := by show w.heap.size ≤ b1; omega
  clear c0 hm hb1 hz1
  go_wp2_with (first
    | (at_lookup; refine arm_look rfl _ _ rfl bm es.length D (by with_unfolding_all exact rfl) hm1 id hid (by with_unfolding_all exact rfl) _ hat _ hhas ?_)
    | (with_reducible refine arm_alloc (zero_msg _) ?_))
  intro b2 w2 hb2 k2 hU2 hz2
  change w2.heap[b2]? = some (.cells (msgC 0 0 0 (.slice none 0 0)) 32 (0, 0)) at k2
  have hV2 := hU1.trans hU2
  have k12 := hU2.heap k1 (by simp)
  have hn12 : b1 ≠ b2 := by have := lt_of_heap k1; omega
  have HLB : Hid (w.heap.size ≤ b2) := by show w.heap.size ≤ b2; have := hU1.size; omega
  have HU2 := Lib.hid hV2
  clear hb2 hU2 hz2 hhas hat hm1 c1 hU1 hV2 k1
  go_wp2_with (with_reducible refine arm_store (by with_unfolding_all exact rfl) (by with_unfolding_all exact rfl) k2 hz (by with_unfolding_all exact rfl) (one_msg _ _ _ rfl) ?_)
  intro w3 k3 hX3 hz3
  have k13 := hX3.heap k12 (fun hm => hn12 (List.mem_singleton.1 hm))
  have HU3 : Hid (Upd [] w w3) := HU2.out.trans' hX3 (fun i hm hl => by have := List.mem_singleton.1 hm; have := HLB.out; omega)
  clear k2 hX3 hz3 k12
  go_wp2_with (with_reducible refine arm_load (by with_unfolding_all exact rfl) k3 Try.underlying32 (by with_unfolding_all exact rfl) hz ?_)
  refine (own_ _ 0 0 0 _ [] (RdB.nil _) (by simp)).mono ?_
  rintro e w4 ⟨v', rfl, ho4, hU4⟩
  have k14 := hU4.heap k13 (by simp)
  have HO4 : Hid (OwnB w4 w.heap.size v' []) := ho4.mono (fun k hk => by have := (ho4.lt k hk).1; have := HU3.out.size; omega)
  have HNB : Hid (v'.ownBlock ≠ some b1) := fun hk => cells_ne ho4 k14 (by decide) hk
  have hvc : v'.oneCell' = true := by obtain ⟨a, c, e⟩ := ho4.isSlice; rw [e]; rfl
  have hsv := size_msg 0 0 0 v'
  have hov := one_msg 0 0 0 hvc
  have HU4 := Lib.hid (HU3.out.trans hU4)
  clear k3 k13 ho4 hU4
  go_wp2_with (with_reducible refine arm_store (by with_unfolding_all exact rfl) (by with_unfolding_all exact rfl) k14 hsv (by with_unfolding_all exact rfl) hov ?_)
  intro w5 k15 hX5 hz5
  have HX5 := Lib.hid hX5
  clear hX5 hz5 k14
  go_wp2_with (fail)
  refine bodyPost_ret (results_agg_tmp rfl _ _ b1 32 _ (0, 0) _ rfl k15 Try.underlying32 rfl hsv rfl) rfl ?_
  exact ⟨v', rfl, HO4.out.upd HX5.out (fun k hk hm => HNB.out (by rw [hk, List.mem_singleton.1 hm])), HU4.out.trans' HX5.out (fun i hm hl => by have := List.mem_singleton.1 hm; have := HLB1.out; omega)⟩
set_option maxRecDepth 100000 in
theorem get_ (w : World) (lo bb bm last : Nat) (es : List Ent) (D : DataW Value) (h : BagAt w lo bb bm last es D) (id : Int) (hid : wfI id) (y : Ent) (hf : findE es id = some y) :
    Calls Try.prog 25 #[.pointer (some ⟨bb, 0, none⟩), .int .i64 id] w fun e w' => ∃ v', e = .returned (.tuple #[.agg (msgC y.id y.fr y.to v'), .bool true]) ∧ OwnB w' w.heap.size v' y.b ∧ Upd [] w w' := by
  have c0 : w.cell? ⟨bb, 0, none⟩ = some (.map (some bm)) := by rw [cell_of_row _ _ _ _ _ _ h.cells]; rfl
  have hm := h.map
  have hhas : Maps.has D (.int .i64 id) = true := by rw [h.of.has, hf]; rfl
  have hat := h.of.val id y (DataW.held (.agg (msgC 0 0 0 (.slice none 0 0)))) hf
  unfold Ent.cells at hat
  have hz := size_msg 0 0 0 (.slice none 0 0)
  have hlt : Hid (∃ A c, y.v = .slice A y.b.length c) := by obtain ⟨A, c, e, _⟩ := (h.rows y (findE_some hf).1).rd.isSlice; exact ⟨_, _, e⟩
  have hvo : y.v.oneCell' = true := by obtain ⟨A, c, e⟩ := hlt.out; rw [e]; rfl
  have hsy := size_msg y.id y.fr y.to y.v
  have hoy := one_msg y.id y.fr y.to hvo
  have HRD : Hid (RdB w y.v y.b ∧ y.b.length ≤ 1024) := ⟨(h.rows y (findE_some hf).1).rd, h.short y (findE_some hf).1⟩
  have H := Lib.hid h
  clear h hvo
  go_enter Try.func25, Try.ntmps25
  go_wp2_with (with_reducible refine arm_alloc (zero_msg _) ?_)
  intro b1 w1 hb1 k1 hU1 hz1
  change w1.heap[b1]? = some (.cells (msgC 0 0 0 (.slice none 0 0)) 32 (0, 0)) at k1
  have c1 := hU1.cell c0 (by simp)
  have hm1 := own_map_upd hm hU1 (by simp)
  have HLB1 : Hid (w.heap.size ≤ b1) := by show w.heap.size ≤ b1; omega
  clear c0 hm hb1 hz1
  go_wp2_with (first
    | (at_lookup; refine arm_look rfl _ _ rfl bm es.length D (by with_unfolding_all exact rfl) hm1 id hid (by with_unfolding_all exact rfl) _ hat _ hhas ?_)
    | (with_reducible refine arm_alloc (zero_msg _) ?_))
  intro b2 w2 hb2 k2 hU2 hz2
  change w2.heap[b2]? = some (.cells (msgC 0 0 0 (.slice none 0 0)) 32 (0, 0)) at k2
  have hV2 := hU1.trans hU2
  have k12 := hU2.heap k1 (by simp)
  have hn12 : b1 ≠ b2 := by have := lt_of_heap k1; omega
  have HLB : Hid (w.heap.size ≤ b2) := by show w.heap.size ≤ b2; have := hU1.size; omega
  have HU2 := Lib.hid hV2
  clear hb2 hU2 hz2 hhas hat hm1 c1 hU1 hV2 k1
  go_wp2_with (with_reducible refine arm_store (by with_unfolding_all exact rfl) (by with_unfolding_all exact rfl) k2 hsy (by with_unfolding_all exact rfl) hoy ?_)
  intro w3 k3 hX3 hz3
  have k13 := hX3.heap k12 (fun hm => hn12 (List.mem_singleton.1 hm))
  have HU3 : Hid (Upd [] w w3) := HU2.out.trans' hX3 (fun i hm hl => by have := List.mem_singleton.1 hm; have := HLB.out; omega)
  clear k2 hX3 hz3 k12
  go_wp2_with (with_reducible refine arm_load (by with_unfolding_all exact rfl) k3 Try.underlying32 (by with_unfolding_all exact rfl) hsy ?_)
  refine (own_ _ y.id y.fr y.to y.v y.b (HRD.out.1.upd0 HU3.out) (by have := HRD.out.2; omega)).mono ?_
  rintro e w4 ⟨v', rfl, ho4, hU4⟩
  have k14 := hU4.heap k13 (by simp)
  have HO4 : Hid (OwnB w4 w.heap.size v' y.b) := ho4.mono (fun k hk => by have := (ho4.lt k hk).1; have := HU3.out.size; omega)
  have HNB : Hid (v'.ownBlock ≠ some b1) := fun hk => cells_ne ho4 k14 (by decide) hk
  have hvc : v'.oneCell' = true := by obtain ⟨a, c, e⟩ := ho4.isSlice; rw [e]; rfl
  have hsv := size_msg y.id y.fr y.to v'
  have hov := one_msg y.id y.fr y.to hvc
  have HU4 := Lib.hid (HU3.out.trans hU4)
  clear k3 k13 ho4 hU4
  go_wp2_with (with_reducible refine arm_store (by with_unfolding_all exact rfl) (by with_unfolding_all exact rfl) k14 hsv (by with_unfolding_all exact rfl) hov ?_)
  intro w5 k15 hX5 hz5
  have HX5 := Lib.hid hX5
  clear hX5 hz5 k14
  go_wp2_with (fail)
  refine bodyPost_ret (results_agg_tmp rfl _ _ b1 32 _ (0, 0) _ rfl k15 Try.underlying32 rfl hsv rfl) rfl ?_
  exact ⟨v', rfl, HO4.out.upd HX5.out (fun k hk hm => HNB.out (by rw [hk, List.mem_singleton.1 hm])), HU4.out.trans' HX5.out (fun i hm hl => by have := List.mem_singleton.1 hm; have := HLB1.out; omega)⟩
set_option maxRecDepth 100000 in
theorem take_none (w : World) (lo bb bm last : Nat) (es : List Ent) (D : DataW Value) (h : BagAt w lo bb bm last es D) (id : Int) (hid : wfI id) (hf : findE es id = none) :
    Calls Try.prog 11 #[.pointer (some ⟨bb, 0, none⟩), .int .i64 id] w fun e w' => e = .returned (.tuple #[.agg (msgC 0 0 0 (.slice none 0 0)), .int .i64 240]) ∧ Upd [] w w' := by
  have c0 : w.cell? ⟨bb, 0, none⟩ = some (.map (some bm)) := by rw [cell_of_row _ _ _ _ _ _ h.cells]; rfl
  have hm := h.map
  have hhas : Maps.has D (.int .i64 id) = false := by rw [h.of.has, hf]; rfl
  have hat := atKey_of_not_has hhas (DataW.held (.agg (msgC 0 0 0 (.slice none 0 0))))
  have hz := size_msg 0 0 0 (.slice none 0 0)
  clear h
  go_enter Try.func11, Try.ntmps11
  go_wp2_with (with_reducible refine arm_alloc (zero_msg _) ?_)
  intro b1 w1 hb1 k1 hU1 hz1
  change w1.heap[b1]? = some (.cells (msgC 0 0 0 (.slice none 0 0)) 32 (0, 0)) at k1
  have c1 := hU1.cell c0 (by simp)
  have hm1 := own_map_upd hm hU1 (by simp)
  have HLB1 : Hid (w.heap.size ≤ b1) := by show w.heap.size ≤ b1; omega
  clear c0 hm hb1 hz1
  go_wp2_with (first
    | (at_lookup; refine arm_look rfl _ _ rfl bm es.length D (by with_unfolding_all exact rfl) hm1 id hid (by with_unfolding_all exact rfl) _ hat _ hhas ?_)
    | (with_reducible refine arm_alloc (zero_msg _) ?_))
  intro b2 w2 hb2 k2 hU2 hz2
  change w2.heap[b2]? = some (.cells (msgC 0 0 0 (.slice none 0 0)) 32 (0, 0)) at k2
  have hV2 := hU1.trans hU2
  have k12 := hU2.heap k1 (by simp)
  have hn12 : b1 ≠ b2 := by have := lt_of_heap k1; omega
  have HLB : Hid (w.heap.size ≤ b2) := by show w.heap.size ≤ b2; have := hU1.size; omega
  have HU2 := Lib.hid hV2
  clear hb2 hU2 hz2 hhas hat hm1 c1 hU1 hV2 k1
  go_wp2_with (with_reducible refine arm_store (by with_unfolding_all exact rfl) (by with_unfolding_all exact rfl) k2 hz (by with_unfolding_all exact rfl) (one_msg _ _ _ rfl) ?_)
  intro w3 k3 hX3 hz3
  have k13 := hX3.heap k12 (fun hm => hn12 (List.mem_singleton.1 hm))
  have HU3 : Hid (Upd [] w w3) := HU2.out.trans' hX3 (fun i hm hl => by have := List.mem_singleton.1 hm; have := HLB.out; omega)
  clear k2 hX3 hz3 k12
  have hb0 : Try.prog.built 32 [] = some (msgC 0 0 0 (.slice none 0 0)) := by kernel_rfl
  go_wp2_with (first
    | (with_reducible refine arm_build0 hb0 ?_)
    | (with_reducible refine arm_store (by with_unfolding_all exact rfl) (by with_unfolding_all exact rfl) k13 hz (by with_unfolding_all exact rfl) (one_msg _ _ _ rfl) ?_))
  intro w5 k15 hX5 hz5
  have HX5 := Lib.hid hX5
  clear hX5 hz5 k13
  go_wp2_with (fail)
  refine bodyPost_ret (results_agg_tmp rfl _ _ b1 32 _ (0, 0) _ rfl k15 Try.underlying32 rfl hz rfl) rfl ?_
  exact ⟨rfl, HU3.out.trans' HX5.out (fun i hm hl => by have := List.mem_singleton.1 hm; have := HLB1.out; omega)⟩
set_option maxRecDepth 100000 in
theorem take_ (w : World) (lo bb bm last : Nat) (es : List Ent) (D : DataW Value) (h : BagAt w lo bb bm last es D) (id : Int) (hid : wfI id) (y : Ent) (hf : findE es id = some y) :
    Calls Try.prog 11 #[.pointer (some ⟨bb, 0, none⟩), .int .i64 id] w fun e w' => ∃ D', e = .returned (.tuple #[.agg y.cells, .int .i64 0]) ∧ BagAt w' lo bb bm last (dropE es id) D' ∧ OwnB w' lo y.v y.b ∧ Upd [bb, bm] w w' := by
  have c0 : w.cell? ⟨bb, 0, none⟩ = some (.map (some bm)) := by rw [cell_of_row _ _ _ _ _ _ h.cells]; rfl
  have hm := h.map
  have hhas : Maps.has D (.int .i64 id) = true := by rw [h.of.has, hf]; rfl
  have hat := h.of.val id y (DataW.held (.agg (msgC 0 0 0 (.slice none 0 0)))) hf
  unfold Ent.cells at hat
  have hz := size_msg 0 0 0 (.slice none 0 0)
  have hlt : Hid (∃ A c, y.v = .slice A y.b.length c) := by obtain ⟨A, c, e, _⟩ := (h.rows y (findE_some hf).1).rd.isSlice; exact ⟨_, _, e⟩
  have hvo : y.v.oneCell' = true := by obtain ⟨A, c, e⟩ := hlt.out; rw [e]; rfl
  have hsy := size_msg y.id y.fr y.to y.v
  have hoy := one_msg y.id y.fr y.to hvo
  have HRD : Hid (RdB w y.v y.b ∧ y.b.length ≤ 1024) := ⟨(h.rows y (findE_some hf).1).rd, h.short y (findE_some hf).1⟩
  have H := Lib.hid h
  clear h hvo
  go_enter Try.func11, Try.ntmps11
  go_wp2_with (with_reducible refine arm_alloc (zero_msg _) ?_)
  intro b1 w1 hb1 k1 hU1 hz1
  change w1.heap[b1]? = some (.cells (msgC 0 0 0 (.slice none 0 0)) 32 (0, 0)) at k1
  have c1 := hU1.cell c0 (by simp)
  have hm1 := own_map_upd hm hU1 (by simp)
  have HLB1 : Hid (w.heap.size ≤ b1) := by show w.heap.size ≤ b1; omega
  clear c0 hm hb1 hz1
  go_wp2_with (first
    | (at_lookup; refine arm_look rfl _ _ rfl bm es.length D (by with_unfolding_all exact rfl) hm1 id hid (by with_unfolding_all exact rfl) _ hat _ hhas ?_)
    | (with_reducible refine arm_alloc (zero_msg _) ?_))
  intro b2 w2 hb2 k2 hU2 hz2
  change w2.heap[b2]? = some (.cells (msgC 0 0 0 (.slice none 0 0)) 32 (0, 0)) at k2
  have hV2 := hU1.trans hU2
  have k12 := hU2.heap k1 (by simp)
  have hn12 : b1 ≠ b2 := by have := lt_of_heap k1; omega
  have HLB : Hid (w.heap.size ≤ b2) := by show w.heap.size ≤ b2; have := hU1.size; omega
  have HU2 := Lib.hid hV2
  clear hb2 hU2 hz2 hhas hat hm1 c1 hU1 hV2 k1
  go_wp2_with (with_reducible refine arm_store (by with_unfolding_all exact rfl) (by with_unfolding_all exact rfl) k2 hsy (by with_unfolding_all exact rfl) hoy ?_)
  intro w3 k3 hX3 hz3
  have k13 := hX3.heap k12 (fun hm => hn12 (List.mem_singleton.1 hm))
  have HU3 : Hid (Upd [] w w3) := HU2.out.trans' hX3 (fun i hm hl => by have := List.mem_singleton.1 hm; have := HLB.out; omega)
  clear k2 hX3 hz3 k12
  have HB3 := Lib.hid (H.out.upd0 HU3.out)
  have c3 : w3.cell? ⟨bb, 0, none⟩ = some (.map (some bm)) := by rw [cell_of_row _ _ _ _ _ _ HB3.out.cells]; rfl
  have hm3 := HB3.out.map
  go_wp2_with (at_delete; refine wpList_delete_own _ rfl _ _ 67 3 rfl 32 law Try.underlying67 readV bm es.length D (by with_unfolding_all exact rfl) hm3 _ (.int .i64 id) (by with_unfolding_all exact rfl) (hkey hid) ?_)
  intro w4 hm4 ht4
  have hU4 : Upd [bm] w3 w4 := (Upd.refl _ _).grown ht4.grown (fun k hk _ => by cases hk; simp)
  have HB4 : Hid (BagAt w4 lo bb bm last (dropE es id) (D.del (.int .i64 id)) ∧ OwnB w4 lo y.v y.b) := by
    have hsub : (dropE es id).Sublist es := List.filter_sublist
    have hof := H.out.of.drop H.out.rise id y hf
    have ho : ∀ e ∈ es, OwnB w4 lo e.v e.b := fun e he => (HB3.out.rows e he).upd hU4 (fun k hk hm => mapb_ne (HB3.out.rows e he) hm3 (by rw [hk, List.mem_singleton.1 hm]))
    refine ⟨⟨hU4.heap HB3.out.cells (fun hm => HB3.out.ne (List.mem_singleton.1 hm).symm), ?_, hof, fun e he => ho e (hsub.subset he), H.out.apart.sublist hsub, H.out.rise.sublist hsub, fun e he => H.out.ids e (hsub.subset he), fun e he => H.out.short e (hsub.subset he), H.out.low, Nat.le_trans hsub.length_le H.out.room⟩, ho y (findE_some hf).1⟩
    have := own_tight hm4
    rwa [hof.size] at this
  have k14 := hU4.heap k13 (fun hm => map_ne hm3 k13 (List.mem_singleton.1 hm).symm)
  have k24 := hU4.heap k3 (fun hm => map_ne hm3 k3 (List.mem_singleton.1 hm).symm)
  have HU4 : Hid (Upd [bb, bm] w w4) := HU3.out.of0.trans' hU4 (fun i hm _ => by simp [List.mem_singleton.1 hm])
  have HNE : Hid (b1 ≠ bb ∧ (∀ e ∈ es, e.v.ownBlock ≠ some b1) ∧ bm ≠ b1) := ⟨heap_ne k13 HB3.out.cells (by decide), fun e he => cells_ne (HB3.out.rows e he) k13 (by decide), map_ne hm3 k13⟩
  clear hm3 c3 hm4 ht4 hU4 k3 k13
  go_wp2_with (first
    | (with_reducible refine arm_load (by with_unfolding_all exact rfl) k24 Try.underlying32 (by with_unfolding_all exact rfl) hsy ?_)
    | (with_reducible refine arm_store (by with_unfolding_all exact rfl) (by with_unfolding_all exact rfl) k14 hsy (by with_unfolding_all exact rfl) hoy ?_))
  intro w5 k15 hX5 hz5
  have HX5 := Lib.hid hX5
  clear hX5 hz5 k14 k24
  go_wp2_with (fail)
  refine bodyPost_ret (results_agg_tmp rfl _ _ b1 32 _ (0, 0) _ rfl k15 Try.underlying32 rfl hsy rfl) rfl ?_
  refine ⟨_, rfl, HB4.out.1.upd HX5.out (fun hm => HNE.out.1 (List.mem_singleton.1 hm).symm) (fun hm => HNE.out.2.2 (List.mem_singleton.1 hm)) (fun e he k hk hm => ?_), HB4.out.2.upd HX5.out (fun k hk hm => HNE.out.2.1 y (findE_some hf).1 (by rw [hk, List.mem_singleton.1 hm])), HU4.out.trans' HX5.out (fun i hm hl => by have := List.mem_singleton.1 hm; have := HLB1.out; omega)⟩
  exact HNE.out.2.1 e (List.filter_sublist.subset he) (by rw [hk, List.mem_singleton.1 hm])
end Go.Proofs.Ytjeddokenpkpnaa
