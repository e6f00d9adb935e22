/-
  left of Play; fits.
-/
import Derived.Test.YtjeddokenpkpnaaPlayD
namespace Go.Proofs.Ytjeddokenpkpnaa
open Go Go.RowKit Go.Proofs Go.Maps
theorem kept_snoc : ∀ (al : List Ent) (tk : List Bool) (i : Nat) (hi : i < al.length) (hk : i < tk.length), kept (al.take (i + 1)) (tk.take (i + 1)) = kept (al.take i) (tk.take i) ++ (if tk[i] then [] else [al[i]])
  | a :: r, b :: s, 0, _, _ => by cases b <;> simp [kept]
  | a :: r, b :: s, i + 1, hi, hk => by
    have ih := kept_snoc r s i (by simpa using hi) (by simpa using hk)
    cases b <;> simp [kept, ih]
  | [], _, _, hi, _ => by simp at hi
  | _ :: _, [], _, _, hk => by simp at hk
theorem kept_length : ∀ (al : List Ent) (tk : List Bool), (kept al tk).length ≤ al.length
  | [], _ => by simp [kept]
  | a :: r, [] => by simp [kept]
  | a :: r, b :: s => by
    have ih := kept_length r s
    cases b <;> simp [kept] <;> omega
set_option maxRecDepth 100000 in
set_option maxHeartbeats 3200000 in
theorem left_ (w : World) (lo bp : Nat) (va vt : Value) (here : Nat) (al : List Ent) (tk : List Bool) (h : PlayAt w lo bp va vt here al tk) :
    Calls Try.prog 27 #[.pointer (some ⟨bp, 0, none⟩)] w fun e w' => ∃ v, e = .returned v ∧ RdM w' v (kept al tk) ∧ Upd [] w w' := by
  obtain ⟨A, c, eA⟩ := OwnA.isSlice h.all.row
  obtain ⟨B, d, eB⟩ := OwnA.isSlice h.tks
  rw [List.length_map] at eA eB
  obtain ⟨n, hn⟩ : ∃ n, al.length = n := ⟨_, rfl⟩
  rw [hn] at eA
  rw [h.len, hn] at eB
  have HEA := Lib.hid eA
  have HEB := Lib.hid eB
  have HN := Lib.hid hn
  have H := Lib.hid h
  have hni : (n : Int) ≤ 9300 := by have := h.small; omega
  clear h hn eA eB
  go_enter Try.func27, Try.ntmps27
  go_wp2_with (fail)
  go_loopw [3, 4] (fun lv iv wr => ∃ i : Nat, iv = .int .i64 i ∧ i ≤ n ∧ OwnA wr w.heap.size 32 4 lv ((kept (al.take i) (tk.take i)).map fun t => t.cells.toList) ∧ Upd [] w wr) (fun _ iv _ => n - (intOf iv).toNat)
  case atStart => exact ⟨0, rfl, Nat.zero_le _, OwnA.nil _ _ _ _, Upd.refl _ _⟩
  case round =>
    obtain ⟨i, rfl, hi, hM, hU⟩ := hrel
    have HM := Lib.hid hM
    have HU := Lib.hid hU
    have HP := Lib.hid (H.out.upd0 hU)
    have HI : Hid (i ≤ n) := hi
    clear hM hU hi
    have c0 : wr.cell? ⟨bp, 0, none⟩ = some (.slice A n c) := by rw [cell_of_row _ _ _ _ _ _ HP.out.cells, ← HEA.out]; rfl
    have c1 : wr.cell? ⟨bp, 1, none⟩ = some (.slice B n d) := by rw [cell_of_row _ _ _ _ _ _ HP.out.cells, ← HEB.out]; rfl
    by_cases hlt : i < n
    · have hli : (i : Int) < (n : Int) := by omega
      have hial : i < al.length := by rw [HN.out]; exact hlt
      have hitk : i < tk.length := by rw [HP.out.len]; exact hial
      obtain ⟨g, cap, cur, eT, rT⟩ := OwnA.at HP.out.tks (by rw [List.length_map]; omega)
      rw [List.length_map, HP.out.len, HN.out, HEB.out] at eT
      injection eT with eT e1 e2
      clear e1 e2 rT
      have ct : wr.cell? ⟨g, i, none⟩ = some (.bool tk[i]) := by
        have h1 := HP.out.tks
        rw [HEB.out, eT] at h1
        exact OwnL.cell h1 i hitk
      have HS := Lib.hid (kept_snoc al tk i hial hitk)
      obtain ⟨tb, htb⟩ : ∃ b, tk[i] = b := ⟨_, rfl⟩
      rw [htb] at ct HS
      rw [eT] at c1
      clear eT htb hitk
      cases tb with
      | true =>
        go_wp2_with (fail)
        go_roundw
        case rel => exact ⟨i + 1, by go_num, by omega, by rw [HS.out, if_pos rfl, List.append_nil]; exact HM.out, HU.out⟩
        case measure => simp [intOf]; omega
      | false =>
        obtain ⟨z, hz⟩ : ∃ z, al[i] = z := ⟨_, rfl⟩
        rw [hz] at HS
        have hzm : z ∈ al := by rw [← hz]; exact List.getElem_mem hial
        obtain ⟨gl, cl, curl, eL, rL⟩ := OwnA.at HP.out.all.row (by rw [List.length_map]; omega)
        rw [List.length_map, HN.out, HEA.out] at eL
        injection eL with eL e1 e2
        clear e1 e2 rL
        have hel : wr.rangeAt gl (i * 4) z.cells.toList := by
          have h1 := HP.out.all.row
          rw [HEA.out, eL] at h1
          have h2 := OwnA.elem h1 i (by rw [List.length_map]; exact hial)
          simpa only [List.getElem_map, hz] using h2
        rw [eL] at c0
        have hvo : z.v.oneCell' = true := by obtain ⟨a, q, e, _⟩ := (HP.out.all.bodies z hzm).rd.isSlice; rw [e]; rfl
        obtain ⟨kz, hkz⟩ : ∃ q, i * 4 = q := ⟨_, rfl⟩
        rw [hkz] at hel
        have hkz' : 0 + i * 4 = kz := by omega
        have hszz := size_msgL z
        clear eL hz hial
        go_wp2_with (first
          | (with_reducible refine arm_index_g (g := gl) (i := i) (by kernel_rfl) (by with_unfolding_all exact rfl) (by with_unfolding_all exact rfl) rfl Try.underlying33 elem_msgs size_msg4 hlt hkz' ?_)
          | (with_reducible refine arm_load_mid_g (by kernel_rfl) (by with_unfolding_all exact rfl) hel Try.underlying32 rfl hszz ?_)
          | (with_reducible refine bsA eltM (show z.cells.size = 4 from rfl) (by with_unfolding_all exact rfl) ?_))
        intro g3 w3 hg3 k3 hU3
        have hM3 := HM.out.upd0 hU3
        have hB3 : w.heap.size ≤ w3.heap.size := (HU.out.trans hU3).size
        have ha3 : ∀ u ∈ z.cells.toList, u.oneCell' = true := one_msgL z.id z.fr z.to hvo
        have hl3 : ((kept (al.take i) (tk.take i)).map fun t => t.cells.toList).length ≤ 1000000 := by
          rw [List.length_map]
          have := kept_length (al.take i) (tk.take i)
          rw [List.length_take, HN.out] at this
          omega
        change w3.heap[g3]? = some (.cells z.cells.toList.toArray 32 (0, 0)) at k3
        have HU3 := Lib.hid (HU.out.trans hU3)
        clear hg3 hU3 hvo hel hszz hkz hkz' c0 c1 ct
        go_wp2_with (with_reducible refine appendA eltM (by with_unfolding_all exact rfl) (by with_unfolding_all exact rfl) hM3 k3 (by with_unfolding_all exact rfl) ha3 hl3 (by decide) hB3 ?_)
        intro v4 w4 hM4 hU4 hb4
        have HM4 := Lib.hid hM4
        have HU4 : Hid (Upd [] w w4) := HU3.out.trans' hU4 (fun k hm hl => by have := (hM3.lt k (by simpa using hm)).1; omega)
        clear hM4 hU4 hb4 hM3 hB3 ha3 hl3 k3
        go_wp2_with (fail)
        go_roundw
        case rel => exact ⟨i + 1, by go_num, by omega, by rw [HS.out, List.map_append]; exact HM4.out, HU4.out⟩
        case measure => simp [intOf]; omega
    · have hin : i = n := by have := HI.out; omega
      have HK : Hid (kept (al.take i) (tk.take i) = kept al tk) := by
        show kept (al.take i) (tk.take i) = kept al tk
        rw [hin, List.take_of_length_le (by rw [HN.out]; exact Nat.le_refl _), List.take_of_length_le (by rw [H.out.len, HN.out]; exact Nat.le_refl _)]
      have hli : ¬ (i : Int) < (n : Int) := by omega
      clear hin hlt
      go_wp2_with (fail)
      go_ret
      refine ⟨_, rfl, ⟨by have := HM.out; rw [HK.out] at this; exact this.rd, fun t ht => (HP.out.all.bodies t (kept_sub al tk t ht)).rd⟩, HU.out⟩
end Go.Proofs.Ytjeddokenpkpnaa
