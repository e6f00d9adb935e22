/-
  The document's bag: Get.
-/
import Derived.Test.YtjeddokenpkpnaaRefA
namespace Go.Proofs.Ytjeddokenpkpnaa
open Go Go.RowKit Go.Proofs Go.Maps
set_option maxRecDepth 100000 in
set_option maxHeartbeats 3200000 in
theorem rget_ (w : World) (v : Value) (last : Int) (ks : List Ent) (h : RdM w v ks) (hn : ks.length ≤ 4096) (x : Int) :
    Calls Try.prog 34 #[.agg (refC v last), .int .i64 x] w fun e w' => e = .returned (.tuple #[.agg (got ks x).1, .bool (got ks x).2]) ∧ Upd [] w w' := by
  obtain ⟨A, c, eA, _⟩ := h.row.isSlice
  rw [List.length_map] at eA
  subst eA
  obtain ⟨N, hN⟩ : ∃ n, ks.length = n := ⟨_, rfl⟩
  rw [hN] at h hn ⊢
  have H := Lib.hid h
  have HN := Lib.hid hN
  have hni : (N : Int) ≤ 4096 := by omega
  clear h hN hn
  go_enter Try.func34, Try.ntmps34
  go_wp2_with (first
    | (with_reducible refine arm_box (by with_unfolding_all exact rfl) ?_)
    | (with_reducible refine arm_alloc (zero_msg _) ?_))
  intro b2 w2 hb2 k2 hU2 hz2
  change w2.heap[b2]? = some (.cells (refC (.slice A N c) last) 44 (0, 0)) at k2
  have HU2 := Lib.hid hU2
  clear hb2 hU2 hz2
  go_wp2_with (with_reducible refine arm_alloc (zero_msg _) ?_)
  intro b4 w4 hb4 k4 hU4 hz4
  change w4.heap[b4]? = some (.cells (msgC 0 0 0 (.slice none 0 0)) 32 (0, 0)) at k4
  have HB4 : Hid (w2.heap.size = b4) := hb4
  have HK2 := Lib.hid (hU4.heap k2 (by simp))
  have HK4 := Lib.hid k4
  have HU4 := Lib.hid (HU2.out.trans hU4)
  clear hb4 k4 hU4 hz4 k2
  go_wp2_with (fail)
  go_loopw [6] (fun iv wr => ∃ i : Nat, iv = .int .i64 i ∧ i ≤ N ∧ (∀ k ∈ ks.take i, k.id ≠ x) ∧ Upd [] w4 wr) (fun iv _ => N - (intOf iv).toNat)
  case atStart => exact ⟨0, rfl, Nat.zero_le _, by simp, Upd.refl _ _⟩
  case round =>
    obtain ⟨i, rfl, hi, hF, hU⟩ := hrel
    have HF := Lib.hid hF
    have HU := Lib.hid hU
    have k2 := hU.heap HK2.out (by simp)
    have k4 := hU.heap HK4.out (by simp)
    have c0 : wr.cell? ⟨b2, 0, none⟩ = some (.slice A N c) := by rw [cell_of_row _ _ _ _ _ _ k2]; rfl
    clear hF hU k2
    by_cases hlt : i < N
    · have hli : (i : Int) < (N : Int) := by omega
      have hil : i < ks.length := by rw [HN.out]; exact hlt
      obtain ⟨y, hy⟩ : ∃ y, ks[i] = y := ⟨_, rfl⟩
      obtain ⟨g, p, c', e, _⟩ := RdA.at H.out.row (by rw [List.length_map, HN.out]; omega)
      injection e with e e1 e2
      clear e1 e2
      subst e
      have hel := RdA.elem H.out.row i (by rw [List.length_map]; exact hil)
      simp only [List.getElem_map, hy] at hel
      have hel := rangeAt_upd hel (HU4.out.trans HU.out) (by simp)
      obtain ⟨kz, hkz⟩ : ∃ q, p + i * 4 = q := ⟨_, rfl⟩
      rw [hkz] at hel
      have cid : wr.cell? ⟨g, kz, none⟩ = some (.int .i64 y.id) := hel 0 _ rfl
      have HTK : Hid (ks.take (i + 1) = ks.take i ++ [y]) := by show ks.take (i + 1) = ks.take i ++ [y]; rw [take_snoc' ks i hil, hy]
      by_cases hx : y.id = x
      · have HG : Hid (got ks x = (y.cells, true)) := by
          have h1 := findE_at i hil HF.out (by rw [hy]; exact hx)
          rw [hy] at h1
          exact got_some h1
        have hvo : y.v.oneCell' = true := by obtain ⟨a, q, e, _⟩ := (H.out.bodies y (by rw [← hy]; exact List.getElem_mem hil)).isSlice; rw [e]; rfl
        have hszz := size_msgL y
        have hsy := size_msg y.id y.fr y.to y.v
        have hoy := one_msg y.id y.fr y.to hvo
        rw [hx] at cid
        clear hy hil hvo
        have hel' : wr.rangeAt g kz (msgC y.id y.fr y.to y.v).toList := hel
        have hsz4 : (Try.prog.info? 32).map (·.size) = some (msgC y.id y.fr y.to y.v).toList.length := hszz
        clear hel hszz
        rw [hx] at hel' hsz4 hsy hoy
        have hHG : Hid (got ks x = (msgC x y.fr y.to y.v, true)) := by show got ks x = (msgC x y.fr y.to y.v, true); rw [HG.out]; unfold Ent.cells; rw [hx]
        clear hx HG
        go_wp2_with (first
          | (with_reducible refine arm_index_g (g := g) (i := i) (by kernel_rfl) (by with_unfolding_all exact rfl) (by with_unfolding_all exact rfl) rfl Try.underlying33 elem_msgs size_msg4 hlt hkz ?_)
          | (with_reducible refine arm_load_mid_g (by kernel_rfl) (by with_unfolding_all exact rfl) hel' Try.underlying32 rfl hsz4 ?_)
          | (with_reducible refine arm_store (by with_unfolding_all exact rfl) (by with_unfolding_all exact rfl) k4 hsy (by with_unfolding_all exact rfl) hoy ?_))
        intro w6 k6 hX6 hz6
        have HX6 := Lib.hid hX6
        clear hX6 hz6 k4 hel' cid
        go_wp2_with (fail)
        refine bodyPost_ret (results_agg_tmp rfl _ _ b4 32 _ (0, 0) _ rfl k6 Try.underlying32 rfl hsy rfl) rfl ?_
        refine ⟨by rw [hHG.out]; rfl, (HU4.out.trans HU.out).trans' HX6.out (fun k hm hl => by have := List.mem_singleton.1 hm; have := HB4.out; have := HU2.out.size; omega)⟩
      · have hxb : (y.id == x) = false := by simp; exact hx
        have HXN : Hid (y.id ≠ x) := hx
        clear hx hy hil
        go_wp2_with (with_reducible refine arm_index_g (g := g) (i := i) (by kernel_rfl) (by with_unfolding_all exact rfl) (by with_unfolding_all exact rfl) rfl Try.underlying33 elem_msgs size_msg4 hlt hkz ?_)
        go_roundw
        case rel =>
          refine ⟨i + 1, by go_num, by omega, fun k hk => ?_, HU.out⟩
          rw [HTK.out] at hk
          rcases List.mem_append.1 hk with hk | hk
          · exact HF.out k hk
          · rw [List.mem_singleton.1 hk]; exact HXN.out
        case measure => simp [intOf]; omega
    · have hin : i = N := by omega
      have hli : ¬ (i : Int) < (N : Int) := by omega
      have HG : Hid (got ks x = (msgC 0 0 0 (.slice none 0 0), false)) := by
        refine got_none ?_
        have h1 := HF.out
        rw [hin, List.take_of_length_le (by rw [HN.out]; exact Nat.le_refl _)] at h1
        unfold findE
        rw [List.find?_eq_none]
        intro k hk
        simpa using h1 k hk
      have hb0 := built_msg0
      have hsz := size_msg 0 0 0 (.slice none 0 0)
      have hone := one_msg 0 0 0 (v := .slice none 0 0) rfl
      clear hin hlt
      go_wp2_with (first
        | (with_reducible refine arm_build0 hb0 ?_)
        | (with_reducible refine arm_store (by with_unfolding_all exact rfl) (by with_unfolding_all exact rfl) k4 hsz (by with_unfolding_all exact rfl) hone ?_))
      intro w6 k6 hX6 hz6
      have HX6 := Lib.hid hX6
      clear hX6 hz6 k4
      go_wp2_with (fail)
      refine bodyPost_ret (results_agg_tmp rfl _ _ b4 32 _ (0, 0) _ rfl k6 Try.underlying32 rfl hsz rfl) rfl ?_
      refine ⟨by rw [HG.out]; rfl, (HU4.out.trans HU.out).trans' HX6.out (fun k hm hl => by have := List.mem_singleton.1 hm; have := HB4.out; have := HU2.out.size; omega)⟩
end Go.Proofs.Ytjeddokenpkpnaa
