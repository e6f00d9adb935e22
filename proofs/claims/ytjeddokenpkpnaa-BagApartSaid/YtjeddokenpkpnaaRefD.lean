/-
  The document's bag: Put, Double.
-/
import Derived.Test.YtjeddokenpkpnaaRefC
namespace Go.Proofs.Ytjeddokenpkpnaa
open Go Go.RowKit Go.Proofs Go.Maps
set_option maxRecDepth 100000 in
set_option maxHeartbeats 3200000 in
theorem rput_long (w : World) (v : Value) (last : Nat) (ks : List Ent) (h : RdM w v ks) (m : Ent) (hv : RdB w m.v m.b) (hb : 1024 < m.b.length) :
    Calls Try.prog 45 #[.agg (refC v last), .agg m.cells] w fun e w' => e = .returned (.tuple #[.agg (refC v last), .int .i64 0, .int .i64 1]) ∧ Upd [] w w' := by
  obtain ⟨A, c, eA, _⟩ := h.row.isSlice
  have hvo : v.oneCell' = true := by rw [eA]; rfl
  have hsz := size_ref v last
  have hone := one_ref last hvo
  clear eA
  obtain ⟨BA, bc, eB, _⟩ := hv.isSlice
  have HMV : Hid (m.v.oneCell' = true) := by show m.v.oneCell' = true; rw [eB]; rfl
  have hbi : (1024 : Int) < (m.b.length : Int) := by omega
  obtain ⟨bl, hbl⟩ : ∃ n, m.b.length = n := ⟨_, rfl⟩
  rw [hbl] at hbi eB
  obtain ⟨mc, hmc⟩ : ∃ q, m.cells = q := ⟨_, rfl⟩
  have hsm : (Try.prog.info? 32).map (·.size) = some mc.size := by rw [← hmc]; exact size_msg m.id m.fr m.to m.v
  have hm3 : mc[3]? = some (.slice BA bl bc) := by rw [← hmc, ← eB]; rfl
  have HMC := Lib.hid hmc
  rw [hmc]
  clear hb hv eB hbl hmc
  have H := Lib.hid h
  clear h
  go_enter Try.func45, Try.ntmps45
  go_wp2_with (with_reducible refine arm_box (by with_unfolding_all exact rfl) ?_)
  intro b2 w2 hb2 k2 hU2 hz2
  change w2.heap[b2]? = some (.cells (refC v last) 44 (0, 0)) at k2
  have HU2 := Lib.hid hU2
  clear hb2 hU2 hz2
  go_wp2_with (with_reducible refine arm_box (by with_unfolding_all exact rfl) ?_)
  intro b3 w3 hb3 k3 hU3 hz3
  change w3.heap[b3]? = some (.cells mc 32 (0, 0)) at k3
  have k2 := hU3.heap k2 (by simp)
  have HU3 := Lib.hid (HU2.out.trans hU3)
  clear hb3 hU3 hz3
  go_wp2_with (with_reducible refine arm_alloc (zero_ref _) ?_)
  intro b4 w4 hb4 k4 hU4 hz4
  change w4.heap[b4]? = some (.cells (refC (.slice none 0 0) 0) 44 (0, 0)) at k4
  have k2 := hU4.heap k2 (by simp)
  have k3 := hU4.heap k3 (by simp)
  have c3 : w4.cell? ⟨b3, 3, none⟩ = some (.slice BA bl bc) := by rw [cell_of_row _ _ _ _ _ _ k3, hm3]
  have HB4 : Hid (w.heap.size ≤ b4) := by show w.heap.size ≤ b4; have := HU3.out.size; have : w3.heap.size = b4 := hb4; omega
  have HU4 := Lib.hid (HU3.out.trans hU4)
  have HK4 := Lib.hid k4
  clear hb4 hU4 hz4 k4
  have k4 := HK4.out
  go_wp2_with (first
    | (with_reducible refine arm_load (by with_unfolding_all exact rfl) k2 Try.underlying44 (by with_unfolding_all exact rfl) hsz ?_)
    | (with_reducible refine arm_store (by with_unfolding_all exact rfl) (by with_unfolding_all exact rfl) k4 hsz (by with_unfolding_all exact rfl) hone ?_))
  intro w8 k8 hX8 hz8
  have HU8 : Hid (Upd [] w w8) := HU4.out.trans' hX8 (fun k hm hl => by have := List.mem_singleton.1 hm; have := HB4.out; omega)
  clear hX8 hz8
  go_wp2_with (fail)
  refine bodyPost_ret (results_ctt rfl _ _ b4 44 _ (0, 0) _ rfl k8 Try.underlying44 rfl hsz rfl rfl) rfl ?_
  exact ⟨rfl, HU8.out⟩
set_option maxRecDepth 100000 in
set_option maxHeartbeats 3200000 in
theorem rput_full (w : World) (v : Value) (last : Nat) (ks : List Ent) (h : RdM w v ks) (m : Ent) (hv : RdB w m.v m.b) (hb : m.b.length ≤ 1024) (hn : ks.length = 4096) :
    Calls Try.prog 45 #[.agg (refC v last), .agg m.cells] w fun e w' => e = .returned (.tuple #[.agg (refC v last), .int .i64 0, .int .i64 241]) ∧ Upd [] w w' := by
  obtain ⟨A, c, eA, _⟩ := h.row.isSlice
  have hvo : v.oneCell' = true := by rw [eA]; rfl
  have hsz := size_ref v last
  have hone := one_ref last hvo
  clear eA
  obtain ⟨BA, bc, eB, _⟩ := hv.isSlice
  have HMV : Hid (m.v.oneCell' = true) := by show m.v.oneCell' = true; rw [eB]; rfl
  have hbi : (m.b.length : Int) ≤ 1024 := by omega
  obtain ⟨bl, hbl⟩ : ∃ n, m.b.length = n := ⟨_, rfl⟩
  rw [hbl] at hbi eB
  obtain ⟨mc, hmc⟩ : ∃ q, m.cells = q := ⟨_, rfl⟩
  have hsm : (Try.prog.info? 32).map (·.size) = some mc.size := by rw [← hmc]; exact size_msg m.id m.fr m.to m.v
  have hm3 : mc[3]? = some (.slice BA bl bc) := by rw [← hmc, ← eB]; rfl
  have HMC := Lib.hid hmc
  rw [hmc]
  clear hb hv eB hbl hmc
  have H := Lib.hid h
  have HN := Lib.hid hn
  clear h hn
  go_enter Try.func45, Try.ntmps45
  go_wp2_with (with_reducible refine arm_box (by with_unfolding_all exact rfl) ?_)
  intro b2 w2 hb2 k2 hU2 hz2
  change w2.heap[b2]? = some (.cells (refC v last) 44 (0, 0)) at k2
  have HU2 := Lib.hid hU2
  clear hb2 hU2 hz2
  go_wp2_with (with_reducible refine arm_box (by with_unfolding_all exact rfl) ?_)
  intro b3 w3 hb3 k3 hU3 hz3
  change w3.heap[b3]? = some (.cells mc 32 (0, 0)) at k3
  have k2 := hU3.heap k2 (by simp)
  have HU3 := Lib.hid (HU2.out.trans hU3)
  clear hb3 hU3 hz3
  go_wp2_with (with_reducible refine arm_alloc (zero_ref _) ?_)
  intro b4 w4 hb4 k4 hU4 hz4
  change w4.heap[b4]? = some (.cells (refC (.slice none 0 0) 0) 44 (0, 0)) at k4
  have k2 := hU4.heap k2 (by simp)
  have k3 := hU4.heap k3 (by simp)
  have c3 : w4.cell? ⟨b3, 3, none⟩ = some (.slice BA bl bc) := by rw [cell_of_row _ _ _ _ _ _ k3, hm3]
  have HB4 : Hid (w.heap.size ≤ b4) := by show w.heap.size ≤ b4; have := HU3.out.size; have : w3.heap.size = b4 := hb4; omega
  have HU4 := Lib.hid (HU3.out.trans hU4)
  have HK4 := Lib.hid k4
  clear hb4 hU4 hz4 k4
  go_wp2_with (first
    | (with_reducible refine arm_load (by with_unfolding_all exact rfl) k2 Try.underlying44 (by with_unfolding_all exact rfl) hsz ?_)
    | (with_reducible refine arm_load (by with_unfolding_all exact rfl) k3 Try.underlying32 (by with_unfolding_all exact rfl) hsm ?_))
  rw [← HMC.out]
  refine (rwith_full _ v last ks (H.out.upd0 HU4.out) HN.out m).mono ?_
  rintro e w8 ⟨rfl, hU8⟩
  have k4 := hU8.heap HK4.out (by simp)
  have HU8 := Lib.hid (HU4.out.trans hU8)
  clear hU8
  go_wp2_with (with_reducible refine arm_store (by with_unfolding_all exact rfl) (by with_unfolding_all exact rfl) k4 hsz (by with_unfolding_all exact rfl) hone ?_)
  intro w9 k9 hX9 hz9
  have HU9 : Hid (Upd [] w w9) := HU8.out.trans' hX9 (fun k hm hl => by have := List.mem_singleton.1 hm; have := HB4.out; omega)
  have HX9 := Lib.hid hX9
  clear hX9 hz9
  go_wp2_with (fail)
  refine bodyPost_ret (results_ctt rfl _ _ b4 44 _ (0, 0) _ rfl k9 Try.underlying44 rfl hsz rfl rfl) rfl ?_
  exact ⟨rfl, HU9.out⟩
set_option maxRecDepth 100000 in
set_option maxHeartbeats 3200000 in
theorem rput_ok (w : World) (v : Value) (last : Nat) (ks : List Ent) (h : RdM w v ks) (m : Ent) (hv : RdB w m.v m.b) (hb : m.b.length ≤ 1024) (hn : ks.length < 4096) (hla : last ≤ 100000) :
    Calls Try.prog 45 #[.agg (refC v last), .agg m.cells] w fun e w' => ∃ v', e = .returned (.tuple #[.agg (refC v' ((last : Int) + 1)), .int .i64 ((last : Int) + 1), .int .i64 0]) ∧ OwnA w' w.heap.size 32 4 v' ((ks ++ [m.as ((last : Int) + 1)]).map fun t => t.cells.toList) ∧ Upd [] w w' := by
  obtain ⟨A, c, eA, _⟩ := h.row.isSlice
  have hvo : v.oneCell' = true := by rw [eA]; rfl
  have hsz := size_ref v last
  have hone := one_ref last hvo
  clear eA
  obtain ⟨BA, bc, eB, _⟩ := hv.isSlice
  have HMV : Hid (m.v.oneCell' = true) := by show m.v.oneCell' = true; rw [eB]; rfl
  have hbi : (m.b.length : Int) ≤ 1024 := by omega
  obtain ⟨bl, hbl⟩ : ∃ n, m.b.length = n := ⟨_, rfl⟩
  rw [hbl] at hbi eB
  obtain ⟨mc, hmc⟩ : ∃ q, m.cells = q := ⟨_, rfl⟩
  have hsm : (Try.prog.info? 32).map (·.size) = some mc.size := by rw [← hmc]; exact size_msg m.id m.fr m.to m.v
  have hm3 : mc[3]? = some (.slice BA bl bc) := by rw [← hmc, ← eB]; rfl
  have HMC := Lib.hid hmc
  rw [hmc]
  clear hb hv eB hbl hmc
  have H := Lib.hid h
  have HN := Lib.hid hn
  have HLA := Lib.hid hla
  clear h hn hla
  go_enter Try.func45, Try.ntmps45
  go_wp2_with (with_reducible refine arm_box (by with_unfolding_all exact rfl) ?_)
  intro b2 w2 hb2 k2 hU2 hz2
  change w2.heap[b2]? = some (.cells (refC v last) 44 (0, 0)) at k2
  have HU2 := Lib.hid hU2
  clear hb2 hU2 hz2
  go_wp2_with (with_reducible refine arm_box (by with_unfolding_all exact rfl) ?_)
  intro b3 w3 hb3 k3 hU3 hz3
  change w3.heap[b3]? = some (.cells mc 32 (0, 0)) at k3
  have k2 := hU3.heap k2 (by simp)
  have HU3 := Lib.hid (HU2.out.trans hU3)
  clear hb3 hU3 hz3
  go_wp2_with (with_reducible refine arm_alloc (zero_ref _) ?_)
  intro b4 w4 hb4 k4 hU4 hz4
  change w4.heap[b4]? = some (.cells (refC (.slice none 0 0) 0) 44 (0, 0)) at k4
  have k2 := hU4.heap k2 (by simp)
  have k3 := hU4.heap k3 (by simp)
  have c3 : w4.cell? ⟨b3, 3, none⟩ = some (.slice BA bl bc) := by rw [cell_of_row _ _ _ _ _ _ k3, hm3]
  have HB4 : Hid (w.heap.size ≤ b4) := by show w.heap.size ≤ b4; have := HU3.out.size; have : w3.heap.size = b4 := hb4; omega
  have HU4 := Lib.hid (HU3.out.trans hU4)
  have HK4 := Lib.hid k4
  clear hb4 hU4 hz4 k4
  go_wp2_with (first
    | (with_reducible refine arm_load (by with_unfolding_all exact rfl) k2 Try.underlying44 (by with_unfolding_all exact rfl) hsz ?_)
    | (with_reducible refine arm_load (by with_unfolding_all exact rfl) k3 Try.underlying32 (by with_unfolding_all exact rfl) hsm ?_))
  rw [← HMC.out]
  refine (rwith_ok _ v last ks (H.out.upd0 HU4.out) HN.out HLA.out m HMV.out).mono ?_
  rintro e w8 ⟨v8, rfl, hO8, hU8⟩
  have k4 := hU8.heap HK4.out (by simp)
  have HO8 := Lib.hid hO8
  have hv8 : v8.oneCell' = true := by obtain ⟨a, q, e⟩ := OwnA.isSlice hO8; rw [e]; rfl
  have hs8 := size_ref v8 ((last : Int) + 1)
  have ho8 := one_ref ((last : Int) + 1) hv8
  have HLW : Hid (w.heap.size ≤ w4.heap.size ∧ b4 < w4.heap.size) := ⟨HU4.out.size, lt_of_heap HK4.out⟩
  have HU8 := Lib.hid (HU4.out.trans hU8)
  clear hU8 hv8 hO8
  go_wp2_with (with_reducible refine arm_store (by with_unfolding_all exact rfl) (by with_unfolding_all exact rfl) k4 hs8 (by with_unfolding_all exact rfl) ho8 ?_)
  intro w9 k9 hX9 hz9
  have HU9 : Hid (Upd [] w w9) := HU8.out.trans' hX9 (fun k hm hl => by have := List.mem_singleton.1 hm; have := HB4.out; omega)
  have HX9 := Lib.hid hX9
  clear hX9 hz9
  go_wp2_with (fail)
  refine bodyPost_ret (results_ctt rfl _ _ b4 44 _ (0, 0) _ rfl k9 Try.underlying44 rfl hs8 rfl rfl) rfl ?_
  exact ⟨v8, rfl, (HO8.out.upd HX9.out (fun k hk hm => by have h1 := (HO8.out.lt k hk).1; have := HLW.out; have := List.mem_singleton.1 hm; omega)).mono (fun k hk => by have h1 := (HO8.out.lt k hk).1; have := HLW.out; omega), HU9.out⟩
set_option maxRecDepth 100000 in
set_option maxHeartbeats 3200000 in
theorem rdouble_none (w : World) (v : Value) (last : Nat) (ks : List Ent) (h : RdM w v ks) (x : Int) (hn : ks.length ≤ 4096) (hf : findE ks x = none) :
    Calls Try.prog 38 #[.agg (refC v last), .int .i64 x] w fun e w' => e = .returned (.tuple #[.agg (refC v last), .int .i64 0, .int .i64 240]) ∧ Upd [] w w' := by
  obtain ⟨A, c, eA, _⟩ := h.row.isSlice
  have hvo : v.oneCell' = true := by rw [eA]; rfl
  have hsz := size_ref v last
  have hone := one_ref last hvo
  clear eA
  have H := Lib.hid h
  have HN := Lib.hid hn
  have HF := Lib.hid hf
  clear h hn hf
  go_enter Try.func38, Try.ntmps38
  go_wp2_with (with_reducible refine arm_box (by with_unfolding_all exact rfl) ?_)
  intro b2 w2 hb2 k2 hU2 hz2
  change w2.heap[b2]? = some (.cells (refC v last) 44 (0, 0)) at k2
  have HU2 := Lib.hid hU2
  clear hb2 hU2 hz2
  obtain ⟨w3, hw3⟩ : ∃ q, w2 = q := ⟨_, rfl⟩
  subst hw3
  have HU3 := HU2
  go_wp2_with (with_reducible refine arm_alloc (zero_ref _) ?_)
  intro b4 w4 hb4 k4 hU4 hz4
  change w4.heap[b4]? = some (.cells (refC (.slice none 0 0) 0) 44 (0, 0)) at k4
  have k2 := hU4.heap k2 (by simp)
  have HB4 : Hid (w.heap.size ≤ b4) := by show w.heap.size ≤ b4; have := HU3.out.size; have : w2.heap.size = b4 := hb4; omega
  have HU4 := Lib.hid (HU3.out.trans hU4)
  have HK4 := Lib.hid k4
  clear hb4 hU4 hz4 k4
  go_wp2_with (with_reducible refine arm_load (by with_unfolding_all exact rfl) k2 Try.underlying44 (by with_unfolding_all exact rfl) hsz ?_)
  refine (rget_ _ v last ks (H.out.upd0 HU4.out) (by have := HN.out; omega) x).mono ?_
  rintro e w5 ⟨rfl, hU5⟩
  rw [got_none HF.out]
  have k2 := hU5.heap k2 (by simp)
  have HK4 := Lib.hid (hU5.heap HK4.out (by simp))
  have HU5 := Lib.hid (HU4.out.trans hU5)
  clear hU5
  have hsm := size_msg 0 0 0 (.slice none 0 0)
  have hom := one_msg 0 0 0 (v := .slice none 0 0) rfl
  have hos : (msgC 0 0 0 (.slice none 0 0)).size = (msgC 0 0 0 (.slice none 0 0)).size := rfl
  go_wp2_with (with_reducible refine arm_alloc (zero_msg _) ?_)
  intro b7 w6 hb7 k7 hU6 hz6
  change w6.heap[b7]? = some (.cells (msgC 0 0 0 (.slice none 0 0)) 32 (0, 0)) at k7
  have k2 := hU6.heap k2 (by simp)
  have HK4 := Lib.hid (hU6.heap HK4.out (by simp))
  have HB7 : Hid (w5.heap.size = b7) := hb7
  have HU6 := Lib.hid (HU5.out.trans hU6)
  have hz := size_msg 0 0 0 (.slice none 0 0)
  clear hb7 hU6 hz6
  go_wp2_with (with_reducible refine arm_store (by with_unfolding_all exact rfl) (by with_unfolding_all exact rfl) k7 hsm (by first | exact hos | with_unfolding_all exact rfl) hom ?_)
  intro w7 k3 hX7 hz7
  have k2 := hX7.heap k2 (fun hm => heap_ne k2 k7 (by decide) (List.mem_singleton.1 hm))
  have HK4 := Lib.hid (hX7.heap HK4.out (fun hm => heap_ne HK4.out k7 (by decide) (List.mem_singleton.1 hm)))
  have HU4 : Hid (Upd [] w w7) := HU6.out.trans' hX7 (fun k hm hl => by have := List.mem_singleton.1 hm; have := HB7.out; have := HU5.out.size; omega)
  clear hX7 hz7 k7 hom hz hos
  have k4 := HK4.out
  go_wp2_with (first
    | (with_reducible refine arm_load (by with_unfolding_all exact rfl) k2 Try.underlying44 (by with_unfolding_all exact rfl) hsz ?_)
    | (with_reducible refine arm_store (by with_unfolding_all exact rfl) (by with_unfolding_all exact rfl) k4 hsz (by with_unfolding_all exact rfl) hone ?_))
  intro w8 k8 hX8 hz8
  have HU8 : Hid (Upd [] w w8) := HU4.out.trans' hX8 (fun k hm hl => by have := List.mem_singleton.1 hm; have := HB4.out; omega)
  clear hX8 hz8
  go_wp2_with (fail)
  refine bodyPost_ret (results_ctt rfl _ _ b4 44 _ (0, 0) _ rfl k8 Try.underlying44 rfl hsz rfl rfl) rfl ?_
  exact ⟨rfl, HU8.out⟩
set_option maxRecDepth 100000 in
set_option maxHeartbeats 3200000 in
theorem rdouble_full (w : World) (v : Value) (last : Nat) (ks : List Ent) (h : RdM w v ks) (x : Int) (hn : ks.length = 4096) (m : Ent) (hf : findE ks x = some m) :
    Calls Try.prog 38 #[.agg (refC v last), .int .i64 x] w fun e w' => e = .returned (.tuple #[.agg (refC v last), .int .i64 0, .int .i64 241]) ∧ Upd [] w w' := by
  obtain ⟨A, c, eA, _⟩ := h.row.isSlice
  have hvo : v.oneCell' = true := by rw [eA]; rfl
  have hsz := size_ref v last
  have hone := one_ref last hvo
  clear eA
  have H := Lib.hid h
  have HN := Lib.hid hn
  have HF := Lib.hid hf
  clear h hn hf
  go_enter Try.func38, Try.ntmps38
  go_wp2_with (with_reducible refine arm_box (by with_unfolding_all exact rfl) ?_)
  intro b2 w2 hb2 k2 hU2 hz2
  change w2.heap[b2]? = some (.cells (refC v last) 44 (0, 0)) at k2
  have HU2 := Lib.hid hU2
  clear hb2 hU2 hz2
  obtain ⟨w3, hw3⟩ : ∃ q, w2 = q := ⟨_, rfl⟩
  subst hw3
  have HU3 := HU2
  go_wp2_with (with_reducible refine arm_alloc (zero_ref _) ?_)
  intro b4 w4 hb4 k4 hU4 hz4
  change w4.heap[b4]? = some (.cells (refC (.slice none 0 0) 0) 44 (0, 0)) at k4
  have k2 := hU4.heap k2 (by simp)
  have HB4 : Hid (w.heap.size ≤ b4) := by show w.heap.size ≤ b4; have := HU3.out.size; have : w2.heap.size = b4 := hb4; omega
  have HU4 := Lib.hid (HU3.out.trans hU4)
  have HK4 := Lib.hid k4
  clear hb4 hU4 hz4 k4
  go_wp2_with (with_reducible refine arm_load (by with_unfolding_all exact rfl) k2 Try.underlying44 (by with_unfolding_all exact rfl) hsz ?_)
  refine (rget_ _ v last ks (H.out.upd0 HU4.out) (by have := HN.out; omega) x).mono ?_
  rintro e w5 ⟨rfl, hU5⟩
  rw [got_some HF.out]
  have k2 := hU5.heap k2 (by simp)
  have HK4 := Lib.hid (hU5.heap HK4.out (by simp))
  have HU5 := Lib.hid (HU4.out.trans hU5)
  clear hU5
  have HMV : Hid (m.v.oneCell' = true) := by obtain ⟨a, q, e, _⟩ := (H.out.bodies m (findE_some HF.out).1).isSlice; show m.v.oneCell' = true; rw [e]; rfl
  have hsm : (Try.prog.info? 32).map (·.size) = some m.cells.size := size_msg m.id m.fr m.to m.v
  have hom : m.cells.all (·.oneCell') = true := one_msg m.id m.fr m.to HMV.out
  have hos : (msgC 0 0 0 (.slice none 0 0)).size = m.cells.size := rfl
  obtain ⟨mc, hmc⟩ : ∃ q, m.cells = q := ⟨_, rfl⟩
  have HMC := Lib.hid hmc
  rw [hmc] at hsm hom hos
  simp only [hmc]
  clear hmc
  go_wp2_with (with_reducible refine arm_alloc (zero_msg _) ?_)
  intro b7 w6 hb7 k7 hU6 hz6
  change w6.heap[b7]? = some (.cells (msgC 0 0 0 (.slice none 0 0)) 32 (0, 0)) at k7
  have k2 := hU6.heap k2 (by simp)
  have HK4 := Lib.hid (hU6.heap HK4.out (by simp))
  have HB7 : Hid (w5.heap.size = b7) := hb7
  have HU6 := Lib.hid (HU5.out.trans hU6)
  have hz := size_msg 0 0 0 (.slice none 0 0)
  clear hb7 hU6 hz6
  go_wp2_with (with_reducible refine arm_store (by with_unfolding_all exact rfl) (by with_unfolding_all exact rfl) k7 hsm (by first | exact hos | with_unfolding_all exact rfl) hom ?_)
  intro w7 k3 hX7 hz7
  have k2 := hX7.heap k2 (fun hm => heap_ne k2 k7 (by decide) (List.mem_singleton.1 hm))
  have HK4 := Lib.hid (hX7.heap HK4.out (fun hm => heap_ne HK4.out k7 (by decide) (List.mem_singleton.1 hm)))
  have HU4 : Hid (Upd [] w w7) := HU6.out.trans' hX7 (fun k hm hl => by have := List.mem_singleton.1 hm; have := HB7.out; have := HU5.out.size; omega)
  clear hX7 hz7 k7 hom hz hos
  go_wp2_with (first
    | (with_reducible refine arm_load (by with_unfolding_all exact rfl) k2 Try.underlying44 (by with_unfolding_all exact rfl) hsz ?_)
    | (with_reducible refine arm_load (by with_unfolding_all exact rfl) k3 Try.underlying32 (by with_unfolding_all exact rfl) hsm ?_))
  rw [← HMC.out]
  refine (rwith_full _ v last ks (H.out.upd0 HU4.out) HN.out m).mono ?_
  rintro e w8 ⟨rfl, hU8⟩
  have k4 := hU8.heap HK4.out (by simp)
  have HU8 := Lib.hid (HU4.out.trans hU8)
  clear hU8
  go_wp2_with (with_reducible refine arm_store (by with_unfolding_all exact rfl) (by with_unfolding_all exact rfl) k4 hsz (by with_unfolding_all exact rfl) hone ?_)
  intro w9 k9 hX9 hz9
  have HU9 : Hid (Upd [] w w9) := HU8.out.trans' hX9 (fun k hm hl => by have := List.mem_singleton.1 hm; have := HB4.out; omega)
  have HX9 := Lib.hid hX9
  clear hX9 hz9
  go_wp2_with (fail)
  refine bodyPost_ret (results_ctt rfl _ _ b4 44 _ (0, 0) _ rfl k9 Try.underlying44 rfl hsz rfl rfl) rfl ?_
  exact ⟨rfl, HU9.out⟩
set_option maxRecDepth 100000 in
set_option maxHeartbeats 3200000 in
theorem rdouble_ok (w : World) (v : Value) (last : Nat) (ks : List Ent) (h : RdM w v ks) (x : Int) (hn : ks.length < 4096) (hla : last ≤ 100000) (m : Ent) (hf : findE ks x = some m) :
    Calls Try.prog 38 #[.agg (refC v last), .int .i64 x] w fun e w' => ∃ v', e = .returned (.tuple #[.agg (refC v' ((last : Int) + 1)), .int .i64 ((last : Int) + 1), .int .i64 0]) ∧ OwnA w' w.heap.size 32 4 v' ((ks ++ [m.as ((last : Int) + 1)]).map fun t => t.cells.toList) ∧ Upd [] w w' := by
  obtain ⟨A, c, eA, _⟩ := h.row.isSlice
  have hvo : v.oneCell' = true := by rw [eA]; rfl
  have hsz := size_ref v last
  have hone := one_ref last hvo
  clear eA
  have H := Lib.hid h
  have HN := Lib.hid hn
  have HLA := Lib.hid hla
  have HF := Lib.hid hf
  clear h hn hla hf
  go_enter Try.func38, Try.ntmps38
  go_wp2_with (with_reducible refine arm_box (by with_unfolding_all exact rfl) ?_)
  intro b2 w2 hb2 k2 hU2 hz2
  change w2.heap[b2]? = some (.cells (refC v last) 44 (0, 0)) at k2
  have HU2 := Lib.hid hU2
  clear hb2 hU2 hz2
  obtain ⟨w3, hw3⟩ : ∃ q, w2 = q := ⟨_, rfl⟩
  subst hw3
  have HU3 := HU2
  go_wp2_with (with_reducible refine arm_alloc (zero_ref _) ?_)
  intro b4 w4 hb4 k4 hU4 hz4
  change w4.heap[b4]? = some (.cells (refC (.slice none 0 0) 0) 44 (0, 0)) at k4
  have k2 := hU4.heap k2 (by simp)
  have HB4 : Hid (w.heap.size ≤ b4) := by show w.heap.size ≤ b4; have := HU3.out.size; have : w2.heap.size = b4 := hb4; omega
  have HU4 := Lib.hid (HU3.out.trans hU4)
  have HK4 := Lib.hid k4
  clear hb4 hU4 hz4 k4
  go_wp2_with (with_reducible refine arm_load (by with_unfolding_all exact rfl) k2 Try.underlying44 (by with_unfolding_all exact rfl) hsz ?_)
  refine (rget_ _ v last ks (H.out.upd0 HU4.out) (by have := HN.out; omega) x).mono ?_
  rintro e w5 ⟨rfl, hU5⟩
  rw [got_some HF.out]
  have k2 := hU5.heap k2 (by simp)
  have HK4 := Lib.hid (hU5.heap HK4.out (by simp))
  have HU5 := Lib.hid (HU4.out.trans hU5)
  clear hU5
  have HMV : Hid (m.v.oneCell' = true) := by obtain ⟨a, q, e, _⟩ := (H.out.bodies m (findE_some HF.out).1).isSlice; show m.v.oneCell' = true; rw [e]; rfl
  have hsm : (Try.prog.info? 32).map (·.size) = some m.cells.size := size_msg m.id m.fr m.to m.v
  have hom : m.cells.all (·.oneCell') = true := one_msg m.id m.fr m.to HMV.out
  have hos : (msgC 0 0 0 (.slice none 0 0)).size = m.cells.size := rfl
  obtain ⟨mc, hmc⟩ : ∃ q, m.cells = q := ⟨_, rfl⟩
  have HMC := Lib.hid hmc
  rw [hmc] at hsm hom hos
  simp only [hmc]
  clear hmc
  go_wp2_with (with_reducible refine arm_alloc (zero_msg _) ?_)
  intro b7 w6 hb7 k7 hU6 hz6
  change w6.heap[b7]? = some (.cells (msgC 0 0 0 (.slice none 0 0)) 32 (0, 0)) at k7
  have k2 := hU6.heap k2 (by simp)
  have HK4 := Lib.hid (hU6.heap HK4.out (by simp))
  have HB7 : Hid (w5.heap.size = b7) := hb7
  have HU6 := Lib.hid (HU5.out.trans hU6)
  have hz := size_msg 0 0 0 (.slice none 0 0)
  clear hb7 hU6 hz6
  go_wp2_with (with_reducible refine arm_store (by with_unfolding_all exact rfl) (by with_unfolding_all exact rfl) k7 hsm (by first | exact hos | with_unfolding_all exact rfl) hom ?_)
  intro w7 k3 hX7 hz7
  have k2 := hX7.heap k2 (fun hm => heap_ne k2 k7 (by decide) (List.mem_singleton.1 hm))
  have HK4 := Lib.hid (hX7.heap HK4.out (fun hm => heap_ne HK4.out k7 (by decide) (List.mem_singleton.1 hm)))
  have HU4 : Hid (Upd [] w w7) := HU6.out.trans' hX7 (fun k hm hl => by have := List.mem_singleton.1 hm; have := HB7.out; have := HU5.out.size; omega)
  clear hX7 hz7 k7 hom hz hos
  go_wp2_with (first
    | (with_reducible refine arm_load (by with_unfolding_all exact rfl) k2 Try.underlying44 (by with_unfolding_all exact rfl) hsz ?_)
    | (with_reducible refine arm_load (by with_unfolding_all exact rfl) k3 Try.underlying32 (by with_unfolding_all exact rfl) hsm ?_))
  rw [← HMC.out]
  refine (rwith_ok _ v last ks (H.out.upd0 HU4.out) HN.out HLA.out m HMV.out).mono ?_
  rintro e w8 ⟨v8, rfl, hO8, hU8⟩
  have k4 := hU8.heap HK4.out (by simp)
  have HO8 := Lib.hid hO8
  have hv8 : v8.oneCell' = true := by obtain ⟨a, q, e⟩ := OwnA.isSlice hO8; rw [e]; rfl
  have hs8 := size_ref v8 ((last : Int) + 1)
  have ho8 := one_ref ((last : Int) + 1) hv8
  have HLW : Hid (w.heap.size ≤ w7.heap.size ∧ b4 < w7.heap.size) := ⟨HU4.out.size, lt_of_heap HK4.out⟩
  have HU8 := Lib.hid (HU4.out.trans hU8)
  clear hU8 hv8 hO8
  go_wp2_with (with_reducible refine arm_store (by with_unfolding_all exact rfl) (by with_unfolding_all exact rfl) k4 hs8 (by with_unfolding_all exact rfl) ho8 ?_)
  intro w9 k9 hX9 hz9
  have HU9 : Hid (Upd [] w w9) := HU8.out.trans' hX9 (fun k hm hl => by have := List.mem_singleton.1 hm; have := HB4.out; omega)
  have HX9 := Lib.hid hX9
  clear hX9 hz9
  go_wp2_with (fail)
  refine bodyPost_ret (results_ctt rfl _ _ b4 44 _ (0, 0) _ rfl k9 Try.underlying44 rfl hs8 rfl rfl) rfl ?_
  exact ⟨v8, rfl, (HO8.out.upd HX9.out (fun k hk hm => by have h1 := (HO8.out.lt k hk).1; have := HLW.out; have := List.mem_singleton.1 hm; omega)).mono (fun k hk => by have h1 := (HO8.out.lt k hk).1; have := HLW.out; omega), HU9.out⟩
end Go.Proofs.Ytjeddokenpkpnaa
