/-
  The document's bag: Take.
-/
import Derived.Test.YtjeddokenpkpnaaRefD
namespace Go.Proofs.Ytjeddokenpkpnaa
open Go Go.RowKit Go.Proofs Go.Maps
theorem yields_build2 {P : Program} {S : World → Prop} {a : Act} {dst : Option Tmp} {ty type : TypeId} {pos : String} {after : Array Edge} {gd : Option (Nat × Bool)} {x0 x1 : Operand} {v0 v1 : Value} {cs : Array Value}
    (h0 : a.eval x0 = v0) (h1 : a.eval x1 = v1) (hf : P.built ty [(0, v0), (1, v1)] = some cs) : ∀ w, S w → (execOp a.eval ⟨dst, .build ty #[(0, x0), (1, x1)], type, pos, after, gd⟩).run P w = .ok (.value (.agg cs)) w := by
  subst h0 h1
  exact yields_build (by simpa using hf)
theorem drop_snoc (ks : List Ent) (x : Int) (i : Nat) (hi : i < ks.length) : dropE (ks.take (i + 1)) x = dropE (ks.take i) x ++ (if ks[i].id = x then [] else [ks[i]]) := by
  rw [take_snoc' ks i hi, dropE, List.filter_append]
  by_cases h : ks[i].id = x <;> simp [dropE, h]
set_option maxRecDepth 100000 in
set_option maxHeartbeats 3200000 in
theorem rtake_none (w : World) (v : Value) (last : Nat) (ks : List Ent) (h : RdM w v ks) (hn : ks.length ≤ 4096) (x : Int) (hf : findE ks x = none) :
    Calls Try.prog 36 #[.agg (refC v last), .int .i64 x] w fun e w' => e = .returned (.tuple #[.agg (refC v last), .agg (msgC 0 0 0 (.slice none 0 0)), .int .i64 240]) ∧ Upd [] w w' := by
  obtain ⟨A, c, eA, _⟩ := h.row.isSlice
  have hvo : v.oneCell' = true := by rw [eA]; rfl
  have hsz := size_ref v last
  have hone := one_ref last hvo
  have H := Lib.hid h
  have HN := Lib.hid hn
  have HF := Lib.hid hf
  clear eA h hn hf
  go_enter Try.func36, Try.ntmps36
  go_wp2_with (with_reducible refine arm_box (by with_unfolding_all exact rfl) ?_)
  intro b2 w2 hb2 k2 hU2 hz2
  change w2.heap[b2]? = some (.cells (refC v last) 44 (0, 0)) at k2
  have HU2 := Lib.hid hU2
  clear hb2 hU2 hz2
  go_wp2_with (with_reducible refine arm_alloc (zero_ref _) ?_)
  intro b4 w4 hb4 k4 hU4 hz4
  change w4.heap[b4]? = some (.cells (refC (.slice none 0 0) 0) 44 (0, 0)) at k4
  have k2 := hU4.heap k2 (by simp)
  have HB24 : Hid (b2 ≠ b4) := fun e => by have := lt_of_heap k2; have h1 : w2.heap.size = b4 := hb4; have h2 := hU4.size; subst e; have := lt_of_heap (show w2.heap[b2]? = _ from by assumption); omega
  have HB4 : Hid (w.heap.size ≤ b4) := by show w.heap.size ≤ b4; have := HU2.out.size; have : w2.heap.size = b4 := hb4; omega
  have HU4 := Lib.hid (HU2.out.trans hU4)
  have HK4 := Lib.hid k4
  clear hb4 hU4 hz4 k4
  go_wp2_with (with_reducible refine arm_alloc (zero_msg _) ?_)
  intro b5 w5 hb5 k5 hU5 hz5
  change w5.heap[b5]? = some (.cells (msgC 0 0 0 (.slice none 0 0)) 32 (0, 0)) at k5
  have k2 := hU5.heap k2 (by simp)
  have HK4 := Lib.hid (hU5.heap HK4.out (by simp))
  have HB5 : Hid (w.heap.size ≤ b5) := by show w.heap.size ≤ b5; have := HU4.out.size; have : w4.heap.size = b5 := hb5; omega
  have HK5 := Lib.hid k5
  have HU5 := Lib.hid (HU4.out.trans hU5)
  clear hb5 hU5 hz5 k5
  go_wp2_with (with_reducible refine arm_load (by with_unfolding_all exact rfl) k2 Try.underlying44 (by with_unfolding_all exact rfl) hsz ?_)
  refine (rget_ _ v last ks (H.out.upd0 HU5.out) HN.out x).mono ?_
  rintro e w6 ⟨rfl, hU6⟩
  rw [got_none HF.out]
  have k2 := hU6.heap k2 (by simp)
  have HK4 := Lib.hid (hU6.heap HK4.out (by simp))
  have HK5 := Lib.hid (hU6.heap HK5.out (by simp))
  have HL5 := Lib.hid (lt_of_heap HK5.out)
  have HU6 := Lib.hid (HU5.out.trans hU6)
  have hz := size_msg 0 0 0 (.slice none 0 0)
  have hom := one_msg 0 0 0 (v := .slice none 0 0) rfl
  clear hU6
  go_wp2_with (with_reducible refine arm_alloc (zero_msg _) ?_)
  intro b7 w7 hb7 k7 hU7 hz7
  change w7.heap[b7]? = some (.cells (msgC 0 0 0 (.slice none 0 0)) 32 (0, 0)) at k7
  have k2 := hU7.heap k2 (by simp)
  have HK4 := Lib.hid (hU7.heap HK4.out (by simp))
  have HK5 := Lib.hid (hU7.heap HK5.out (by simp))
  have HB7 : Hid (w6.heap.size = b7) := hb7
  have HN57 : Hid (b5 ≠ b7) := by show b5 ≠ b7; have := HL5.out; have := HB7.out; omega
  have HU7 := Lib.hid (HU6.out.trans hU7)
  clear hb7 hU7 hz7
  go_wp2_with (with_reducible refine arm_store (by with_unfolding_all exact rfl) (by with_unfolding_all exact rfl) k7 hz (by with_unfolding_all exact rfl) hom ?_)
  intro w8 k8 hX8 hz8
  have HK2 := Lib.hid (hX8.heap k2 (fun hm => heap_ne k2 k7 (by decide) (List.mem_singleton.1 hm)))
  have HK4 := Lib.hid (hX8.heap HK4.out (fun hm => heap_ne HK4.out k7 (by decide) (List.mem_singleton.1 hm)))
  have HK5 := Lib.hid (hX8.heap HK5.out (fun hm => HN57.out (List.mem_singleton.1 hm)))
  have HK8 := Lib.hid k8
  have HU8 : Hid (Upd [] w w8) := HU7.out.trans' hX8 (fun k hm hl => by have := List.mem_singleton.1 hm; have := HB7.out; have := HU6.out.size; omega)
  have HN25 : Hid (b2 ≠ b5) := fun e => heap_ne HK2.out HK5.out (by decide) e
  have HN47 : Hid (b4 ≠ b7) := fun e => heap_ne HK4.out k8 (by decide) e
  have HQ2 : Hid (∀ W, Upd [b4, b5] w8 W → ∃ t fr', W.heap[b2]? = some (.cells (refC v last) t fr')) := fun W hW => ⟨_, _, hW.heap HK2.out (by simp; exact ⟨HB24.out, HN25.out⟩)⟩
  have HQ7 : Hid (∀ W, Upd [b4, b5] w8 W → ∃ t fr', W.heap[b7]? = some (.cells (msgC 0 0 0 (.slice none 0 0)) t fr')) := fun W hW => ⟨_, _, hW.heap HK8.out (by simp; exact ⟨fun e => HN47.out e.symm, fun e => HN57.out e.symm⟩)⟩
  clear hX8 hz8 k7 k8 k2
  go_upto_region 3 with (fail)
  go_simp
  refine wp_region_orders [0, 1] (.step 2 (.step 3 (.step 4 .none .none) .none) .none) (Upd [b4, b5] w8) (by kernel_rfl) (by kernel_rfl) (Upd.refl _ _).drew ?_
  refine takeO_cons _ (.agg (refC v last)) rfl (by kernel_rfl) (yields_row (g := b2) (by kernel_rfl) HQ2.out Try.underlying44 rfl hsz) ?_
  refine takeO_cons _ (.agg (msgC 0 0 0 (.slice none 0 0))) rfl (by kernel_rfl) (yields_row (g := b7) (by kernel_rfl) HQ7.out Try.underlying32 rfl hz) ?_
  refine takeO_nil (by simp [Ord.first]) ?_
  have hD2 : Upd [] w8 w8.drew := (Upd.refl _ _).drew
  have k4 := hD2.heap HK4.out (by simp)
  have k5 := hD2.heap HK5.out (by simp)
  refine ordP_step _ (by simp only [List.getElem?_toArray, List.getElem?_cons_succ, List.getElem?_cons_zero]; rfl) ?_ ordP_none
  go_simp
  with_reducible refine arm_store (by with_unfolding_all exact rfl) (by with_unfolding_all exact rfl) k4 hsz (by with_unfolding_all exact rfl) hone ?_
  intro w9 k9 hX9 hz9
  have k59 := hX9.heap k5 (fun hm => heap_ne k5 k4 (by decide) (List.mem_singleton.1 hm))
  have h89 : Upd [b4, b5] w8 w9 := (hD2.of0).trans' hX9 (fun i hm _ => by rw [List.mem_singleton.1 hm]; simp)
  have H89 := Lib.hid h89
  clear hX9 hz9 k5 k4 h89
  go_wp2_with (fail)
  refine ord_more (by simp [Ord.first]) H89.out ?_
  refine ordP_step _ (by simp only [List.getElem?_toArray, List.getElem?_cons_succ, List.getElem?_cons_zero]; rfl) ?_ ordP_none
  with_reducible refine arm_store (by with_unfolding_all exact rfl) (by with_unfolding_all exact rfl) k59 hz (by with_unfolding_all exact rfl) hom ?_
  intro wa ka hXa hza
  have k9a := hXa.heap k9 (fun hm => heap_ne k9 k59 (by decide) (List.mem_singleton.1 hm))
  have H8a : Hid (Upd [b4, b5] w8 wa) := H89.out.trans' hXa (fun i hm _ => by rw [List.mem_singleton.1 hm]; simp)
  have HUA : Hid (Upd [] w wa) := HU8.out.trans' H8a.out (fun k hm hl => by simp at hm; have := HB4.out; have := HB5.out; omega)
  clear hXa hza k59 k9
  go_wp2_with (fail)
  refine ord_more (by simp [Ord.first]) H8a.out ?_
  refine ordP_step _ (by simp only [List.getElem?_toArray, List.getElem?_cons_succ, List.getElem?_cons_zero]; rfl) ?_ ordP_none
  go_wp2_with (fail)
  refine ord_last H8a.out ?_
  go_wp2_with (fail)
  refine bodyPost_ret (results_cct rfl _ _ b4 b5 44 32 _ _ (0, 0) (0, 0) _ _ rfl k9a Try.underlying44 rfl hsz rfl ka Try.underlying32 rfl hz rfl) rfl ?_
  exact ⟨rfl, HUA.out⟩
set_option maxRecDepth 100000 in
set_option maxHeartbeats 3200000 in
theorem rtake_ok (w : World) (v : Value) (last : Nat) (ks : List Ent) (h : RdM w v ks) (hn : ks.length ≤ 4096) (x : Int) (m : Ent) (hf : findE ks x = some m) :
    Calls Try.prog 36 #[.agg (refC v last), .int .i64 x] w fun e w' => ∃ v', e = .returned (.tuple #[.agg (refC v' last), .agg m.cells, .int .i64 0]) ∧ OwnA w' w.heap.size 32 4 v' ((dropE ks x).map fun t => t.cells.toList) ∧ Upd [] w w' := by
  obtain ⟨A, c, eA, _⟩ := h.row.isSlice
  rw [List.length_map] at eA
  subst eA
  obtain ⟨N, hN⟩ : ∃ n, ks.length = n := ⟨_, rfl⟩
  rw [hN] at h hn ⊢
  have hsz := size_ref (.slice A N c) last
  have H := Lib.hid h
  have HN := Lib.hid hn
  have HNN := Lib.hid hN
  have HF := Lib.hid hf
  have hni : (N : Int) ≤ 4096 := by omega
  have HMV : Hid (m.v.oneCell' = true) := by obtain ⟨a, q, e, _⟩ := (h.bodies m (findE_some hf).1).isSlice; show m.v.oneCell' = true; rw [e]; rfl
  clear h hn hN hf
  go_enter Try.func36, Try.ntmps36
  go_wp2_with (with_reducible refine arm_box (by with_unfolding_all exact rfl) ?_)
  intro b2 w2 hb2 k2 hU2 hz2
  change w2.heap[b2]? = some (.cells (refC (.slice A N c) last) 44 (0, 0)) at k2
  have HU2 := Lib.hid hU2
  have HL2 := Lib.hid (lt_of_heap k2)
  clear hb2 hU2 hz2
  go_wp2_with (with_reducible refine arm_alloc (zero_ref _) ?_)
  intro b4 w4 hb4 k4 hU4 hz4
  change w4.heap[b4]? = some (.cells (refC (.slice none 0 0) 0) 44 (0, 0)) at k4
  have k2 := hU4.heap k2 (by simp)
  have HB24 : Hid (b2 ≠ b4) := by show b2 ≠ b4; have := HL2.out; have : w2.heap.size = b4 := hb4; omega
  have HB4 : Hid (w.heap.size ≤ b4) := by show w.heap.size ≤ b4; have := HU2.out.size; have : w2.heap.size = b4 := hb4; omega
  have HU4 := Lib.hid (HU2.out.trans hU4)
  have HK4 := Lib.hid k4
  clear hb4 hU4 hz4 k4
  go_wp2_with (with_reducible refine arm_alloc (zero_msg _) ?_)
  intro b5 w5 hb5 k5 hU5 hz5
  change w5.heap[b5]? = some (.cells (msgC 0 0 0 (.slice none 0 0)) 32 (0, 0)) at k5
  have k2 := hU5.heap k2 (by simp)
  have HK4 := Lib.hid (hU5.heap HK4.out (by simp))
  have HB5 : Hid (w.heap.size ≤ b5) := by show w.heap.size ≤ b5; have := HU4.out.size; have : w4.heap.size = b5 := hb5; omega
  have HK5 := Lib.hid k5
  have HU5 := Lib.hid (HU4.out.trans hU5)
  clear hb5 hU5 hz5 k5
  go_wp2_with (with_reducible refine arm_load (by with_unfolding_all exact rfl) k2 Try.underlying44 (by with_unfolding_all exact rfl) hsz ?_)
  refine (rget_ _ (.slice A N c) last ks (H.out.upd0 HU5.out) (by rw [HNN.out]; exact HN.out) x).mono ?_
  rintro e w6 ⟨rfl, hU6⟩
  rw [got_some HF.out]
  have k2 := hU6.heap k2 (by simp)
  have HK4 := Lib.hid (hU6.heap HK4.out (by simp))
  have HK5 := Lib.hid (hU6.heap HK5.out (by simp))
  have HL5 := Lib.hid (lt_of_heap HK5.out)
  have HU6 := Lib.hid (HU5.out.trans hU6)
  have hz : (Try.prog.info? 32).map (·.size) = some m.cells.size := size_msg m.id m.fr m.to m.v
  have hom : m.cells.all (·.oneCell') = true := one_msg m.id m.fr m.to HMV.out
  have hos : (msgC 0 0 0 (.slice none 0 0)).size = m.cells.size := rfl
  obtain ⟨mc, hmc⟩ : ∃ q, m.cells = q := ⟨_, rfl⟩
  rw [hmc] at hz hom hos
  simp only [hmc]
  have HMC := Lib.hid hmc
  clear hU6 hmc
  go_wp2_with (with_reducible refine arm_alloc (zero_msg _) ?_)
  intro b7 w7 hb7 k7 hU7 hz7
  change w7.heap[b7]? = some (.cells (msgC 0 0 0 (.slice none 0 0)) 32 (0, 0)) at k7
  have k2 := hU7.heap k2 (by simp)
  have HK4 := Lib.hid (hU7.heap HK4.out (by simp))
  have HK5 := Lib.hid (hU7.heap HK5.out (by simp))
  have HB7 : Hid (w6.heap.size = b7) := hb7
  have HN57 : Hid (b5 ≠ b7) := by show b5 ≠ b7; have := HL5.out; have := HB7.out; omega
  have HU7 := Lib.hid (HU6.out.trans hU7)
  clear hb7 hU7 hz7
  go_wp2_with (with_reducible refine arm_store (by with_unfolding_all exact rfl) (by with_unfolding_all exact rfl) k7 hz (by first | exact hos | with_unfolding_all exact rfl) hom ?_)
  intro w8 k8 hX8 hz8
  have HK2 := Lib.hid (hX8.heap k2 (fun hm => heap_ne k2 k7 (by decide) (List.mem_singleton.1 hm)))
  have HK4 := Lib.hid (hX8.heap HK4.out (fun hm => heap_ne HK4.out k7 (by decide) (List.mem_singleton.1 hm)))
  have HK5 := Lib.hid (hX8.heap HK5.out (fun hm => HN57.out (List.mem_singleton.1 hm)))
  have HK8 := Lib.hid k8
  have HU8 : Hid (Upd [] w w8) := HU7.out.trans' hX8 (fun k hm hl => by have := List.mem_singleton.1 hm; have := HB7.out; have := HU6.out.size; omega)
  have HN25 : Hid (b2 ≠ b5) := fun e => heap_ne HK2.out HK5.out (by decide) e
  have HN47 : Hid (b4 ≠ b7) := fun e => heap_ne HK4.out k8 (by decide) e
  have HL45 : Hid (b2 < w8.heap.size ∧ b4 < w8.heap.size ∧ b5 < w8.heap.size ∧ b7 < w8.heap.size) := ⟨lt_of_heap HK2.out, lt_of_heap HK4.out, lt_of_heap HK5.out, lt_of_heap k8⟩
  clear hX8 hz8 k7 k8 k2 hos
  go_wp2_with (fail)
  go_loopw [9, 10] (fun lv iv wr => ∃ i : Nat, iv = .int .i64 i ∧ i ≤ N ∧ OwnA wr w8.heap.size 32 4 lv ((dropE (ks.take i) x).map fun t => t.cells.toList) ∧ Upd [] w8 wr) (fun _ iv _ => N - (intOf iv).toNat)
  case atStart => exact ⟨0, rfl, Nat.zero_le _, OwnA.nil _ _ _ _, Upd.refl _ _⟩
  case round =>
    obtain ⟨i, rfl, hi, hM, hU⟩ := hrel
    have HM := Lib.hid hM
    have HU := Lib.hid hU
    have k2 := hU.heap HK2.out (by simp)
    have c0 : wr.cell? ⟨b2, 0, none⟩ = some (.slice A N c) := by rw [cell_of_row _ _ _ _ _ _ k2]; rfl
    have c1 : wr.cell? ⟨b2, 1, none⟩ = some (.int .i64 last) := by rw [cell_of_row _ _ _ _ _ _ k2]; rfl
    have HI : Hid (i ≤ N) := hi
    clear hM hU hi
    by_cases hlt : i < N
    · have hli : (i : Int) < (N : Int) := by omega
      have hil : i < ks.length := by rw [HNN.out]; exact hlt
      obtain ⟨y, hy⟩ : ∃ y, ks[i] = y := ⟨_, rfl⟩
      obtain ⟨g, p, c', e, _⟩ := RdA.at H.out.row (by rw [List.length_map, HNN.out]; omega)
      injection e with e e1 e2
      clear e1 e2
      subst e
      have hel := RdA.elem H.out.row i (by rw [List.length_map]; exact hil)
      simp only [List.getElem_map, hy] at hel
      have hel := rangeAt_upd hel (HU8.out.trans HU.out) (by simp)
      obtain ⟨kz, hkz⟩ : ∃ q, p + i * 4 = q := ⟨_, rfl⟩
      rw [hkz] at hel
      have cid : wr.cell? ⟨g, kz, none⟩ = some (.int .i64 y.id) := hel 0 _ rfl
      have HDS := Lib.hid (drop_snoc ks x i hil)
      rw [hy] at HDS
      have hvo : y.v.oneCell' = true := by obtain ⟨a, q, e, _⟩ := (H.out.bodies y (by rw [← hy]; exact List.getElem_mem hil)).isSlice; rw [e]; rfl
      have hszz := size_msgL y
      clear c1 k2 hy hil
      by_cases hx : y.id = x
      · have hxb : (y.id != x) = false := by simp; exact hx
        have HXE : Hid (y.id = x) := hx
        clear hx hel hszz hvo
        go_wp2_with (with_reducible refine arm_index_g (g := g) (i := i) (by kernel_rfl) (by with_unfolding_all exact rfl) (by with_unfolding_all exact rfl) rfl Try.underlying33 elem_msgs size_msg4 hlt hkz ?_)
        go_roundw
        case rel => exact ⟨i + 1, by go_num, by omega, by rw [HDS.out, if_pos HXE.out, List.append_nil]; exact HM.out, HU.out⟩
        case measure => simp [intOf]; omega
      · have hxb : (y.id != x) = true := by simp; exact hx
        have HXE : Hid (y.id ≠ x) := hx
        clear hx
        go_wp2_with (first
          | (with_reducible refine arm_index_g (g := g) (i := i) (by kernel_rfl) (by with_unfolding_all exact rfl) (by with_unfolding_all exact rfl) rfl Try.underlying33 elem_msgs size_msg4 hlt hkz ?_)
          | (with_reducible refine arm_load_mid_g (by kernel_rfl) (by with_unfolding_all exact rfl) hel Try.underlying32 rfl hszz ?_)
          | (with_reducible refine bsA eltM (show y.cells.size = 4 from rfl) (by with_unfolding_all exact rfl) ?_))
        intro g3 w3 hg3 k3 hU3
        have hM3 := HM.out.upd0 hU3
        have hB3 : w8.heap.size ≤ w3.heap.size := (HU.out.trans hU3).size
        have ha3 : ∀ u ∈ y.cells.toList, u.oneCell' = true := one_msgL y.id y.fr y.to hvo
        have hl3 : ((dropE (ks.take i) x).map fun t => t.cells.toList).length ≤ 1000000 := by
          rw [List.length_map]
          have h1 : (dropE (ks.take i) x).length ≤ (ks.take i).length := List.length_filter_le _ _
          rw [List.length_take] at h1
          have := HN.out
          have := HI.out
          omega
        change w3.heap[g3]? = some (.cells y.cells.toList.toArray 32 (0, 0)) at k3
        have HU3 := Lib.hid (HU.out.trans hU3)
        clear hg3 hU3 hvo hel hszz hkz c0 cid hxb
        go_wp2_with (with_reducible refine appendA eltM (by with_unfolding_all exact rfl) (by with_unfolding_all exact rfl) hM3 k3 (by with_unfolding_all exact rfl) ha3 hl3 (by decide) hB3 ?_)
        intro v4 w4' hM4 hU4' hb4
        have HM4 := Lib.hid hM4
        have HU4' : Hid (Upd [] w8 w4') := HU3.out.trans' hU4' (fun k hm hl => by have := (hM3.lt k (by simpa using hm)).1; omega)
        clear hM4 hU4' hb4 hM3 hB3 ha3 hl3 k3
        go_wp2_with (fail)
        go_roundw
        case rel => exact ⟨i + 1, by go_num, by omega, by rw [HDS.out, if_neg HXE.out, List.map_append]; exact HM4.out, HU4'.out⟩
        case measure => simp [intOf]; omega
    · have hin : i = N := by have := HI.out; omega
      have HO : Hid (OwnA wr w8.heap.size 32 4 u9 ((dropE ks x).map fun t => t.cells.toList)) := by
        have h1 := HM.out
        rw [hin, List.take_of_length_le (by rw [HNN.out]; exact Nat.le_refl _)] at h1
        exact h1
      have hli : ¬ (i : Int) < (N : Int) := by omega
      have hV9 : u9.oneCell' = true ∧ ∃ A n c, u9 = .slice A n c := by obtain ⟨A4, c4, e4⟩ := OwnA.isSlice HO.out; rw [e4]; exact ⟨rfl, _, _, _, rfl⟩
      have hbr := built_ref u9 last hV9.2
      have hsr := size_ref u9 last
      have hor := one_ref last hV9.1
      have HK4r := Lib.hid (HU.out.heap HK4.out (by simp))
      have HK5r := Lib.hid (HU.out.heap HK5.out (by simp))
      have HK8r := Lib.hid (HU.out.heap HK8.out (by simp))
      have HK2r := Lib.hid k2
      have HC1 : Hid (∀ W, Upd [b4, b5] wr W → W.cell? ⟨b2, 1, none⟩ = some (.int .i64 last)) := fun W hW => by rw [cell_of_row _ _ _ _ _ _ (hW.heap HK2r.out (by simp; exact ⟨HB24.out, HN25.out⟩))]; rfl
      have HQ7 : Hid (∀ W, Upd [b4, b5] wr W → ∃ t fr', W.heap[b7]? = some (.cells mc t fr')) := fun W hW => ⟨_, _, hW.heap HK8r.out (by simp; exact ⟨fun e => HN47.out e.symm, fun e => HN57.out e.symm⟩)⟩
      have HMS : Hid (mc.size = 4) := by have := hz; rw [size_msg4] at this; injection this with this; exact this.symm
      clear hin hlt k2 c1
      go_upto_region 10 with (fail)
      go_simp
      refine wp_region_orders [0, 1, 2, 3, 4] (.step 5 (.step 6 (.step 7 .none .none) .none) .none) (Upd [b4, b5] wr) (by kernel_rfl) (by kernel_rfl) (Upd.refl _ _).drew ?_
      refine takeO_cons _ u9 rfl (by kernel_rfl) (yields_move (by kernel_rfl)) ?_
      refine takeO_cons _ (.pointer (some ⟨b2, 1, none⟩)) rfl (by kernel_rfl) (fun w _ => by kernel_rfl) ?_
      refine takeO_cons _ (.int .i64 last) rfl (by kernel_rfl) (yields_cell (p := ⟨b2, 1, none⟩) (by kernel_rfl) HC1.out Try.underlying3 rfl) ?_
      refine takeO_cons _ (.agg (refC u9 last)) rfl (by kernel_rfl) (yields_build2 (by kernel_rfl) (by kernel_rfl) hbr) ?_
      refine takeO_cons _ (.agg mc) rfl (by kernel_rfl) (yields_row (g := b7) (by kernel_rfl) HQ7.out Try.underlying32 rfl hz) ?_
      refine takeO_nil (by simp [Ord.first]) ?_
      have hD2 : Upd [] wr wr.drew := (Upd.refl _ _).drew
      have k4 := hD2.heap HK4r.out (by simp)
      have k5 := hD2.heap HK5r.out (by simp)
      have hos : (msgC 0 0 0 (.slice none 0 0)).size = mc.size := by rw [HMS.out]; rfl
      refine ordP_step _ (by simp only [List.getElem?_toArray, List.getElem?_cons_succ, List.getElem?_cons_zero]; rfl) ?_ ordP_none
      go_simp
      with_reducible refine arm_store (by with_unfolding_all exact rfl) (by with_unfolding_all exact rfl) k4 hsr (by with_unfolding_all exact rfl) hor ?_
      intro w9 k9 hX9 hz9
      have k59 := hX9.heap k5 (fun hm => heap_ne k5 k4 (by decide) (List.mem_singleton.1 hm))
      have h89 : Upd [b4, b5] wr w9 := (hD2.of0).trans' hX9 (fun i hm _ => by rw [List.mem_singleton.1 hm]; simp)
      have H89 := Lib.hid h89
      have HOS := Lib.hid hos
      clear hX9 hz9 k5 k4 h89 hos
      go_wp2_with (fail)
      refine ord_more (by simp [Ord.first]) H89.out ?_
      refine ordP_step _ (by simp only [List.getElem?_toArray, List.getElem?_cons_succ, List.getElem?_cons_zero]; rfl) ?_ ordP_none
      with_reducible refine arm_store (by with_unfolding_all exact rfl) (by with_unfolding_all exact rfl) k59 hz HOS.out hom ?_
      intro wa ka hXa hza
      have k9a := hXa.heap k9 (fun hm => heap_ne k9 k59 (by decide) (List.mem_singleton.1 hm))
      have H8a : Hid (Upd [b4, b5] wr wa) := H89.out.trans' hXa (fun i hm _ => by rw [List.mem_singleton.1 hm]; simp)
      have HUA : Hid (Upd [] w wa) := (HU8.out.trans HU.out).trans' H8a.out (fun k hm hl => by simp at hm; have := HB4.out; have := HB5.out; omega)
      have HOA : Hid (OwnA wa w8.heap.size 32 4 u9 ((dropE ks x).map fun t => t.cells.toList)) := HO.out.upd H8a.out (fun k hk hm => by have h1 := (HO.out.lt k hk).1; have := HL45.out; simp at hm; omega)
      clear hXa hza k59 k9
      go_wp2_with (fail)
      refine ord_more (by simp [Ord.first]) H8a.out ?_
      refine ordP_step _ (by simp only [List.getElem?_toArray, List.getElem?_cons_succ, List.getElem?_cons_zero]; rfl) ?_ ordP_none
      go_wp2_with (fail)
      refine ord_last H8a.out ?_
      go_wp2_with (fail)
      refine bodyPost_ret (results_cct rfl _ _ b4 b5 44 32 _ _ (0, 0) (0, 0) _ _ rfl k9a Try.underlying44 rfl hsr rfl ka Try.underlying32 rfl hz rfl) rfl ?_
      exact ⟨u9, by rw [HMC.out]; rfl, HOA.out.mono (fun k hk => by have h1 := (HOA.out.lt k hk).1; have := HU8.out.size; omega), HUA.out⟩
end Go.Proofs.Ytjeddokenpkpnaa
