/-
  The law's fitted.
-/
import Derived.Test.YtjoliagnhmfdiaaLattice
import Derived.Test.YtjoliagnhmfdiaaTCov
namespace Go.Proofs.Ytjoliagnhmfdiaa
open Go Go.RowKit Go.Proofs
def fitE (c : Crt) (e : Ent) : Ent := ⟨c, e.idx, e.val, e.fz, if e.fz then e.fs else zeros64, e.rv, if e.rv then e.rs else zeros64⟩
theorem fitE_ok {c : Crt} {e : Ent} (hc : c.ok) (he : e.ok) : (fitE c e).ok := by
  refine ⟨hc, he.2.1, ?_, ?_⟩
  · simp only [fitE]; split
    · exact he.2.2.1
    · exact zeros64_len
  · simp only [fitE]; split
    · exact he.2.2.2
    · exact zeros64_len
theorem fitE_fit (c : Crt) (e : Ent) : (fitE c e).fit := by
  constructor <;> intro h <;> simp only [fitE] at h ⊢ <;> simp [h]
theorem crt_all (c : Crt) : (crtC c).toArray.all (·.oneCell') = true := all_of_one (crtC_one c)
set_option maxRecDepth 100000 in
set_option maxHeartbeats 12800000 in
theorem fitted_ (w : World) (c : Crt) (e : Ent) (hc : c.ok) (he : e.ok) : Calls Try.prog 9 #[.agg (crtC c).toArray, .agg (entC e).toArray] w fun x w' => x = .returned (.agg (entC (fitE c e)).toArray) ∧ Upd [] w w' := by
  have oF := fitE_ok hc he
  have hsF := szent oF
  have hoF := samez zeroEnt_ok oF
  have haF := all_of_one (entC_one (fitE c e))
  have hsc : (Try.prog.info? 27).map (·.size) = some (crtC c).toArray.size := by rw [size_crt]; simp [crtC_length hc]
  have hsc' := szcrt hc
  have h1c := crtC_one c
  have hb0 := built_sig0
  rw [← zeros64_row] at hb0
  have hsz := szg zeros64_len
  have o1 : Ent.ok { e with crt := c } := ⟨hc, he.2⟩
  obtain ⟨e1, he1⟩ : ∃ x, ({ e with crt := c } : Ent) = x := ⟨_, rfl⟩
  rw [he1] at o1
  obtain ⟨R, hR⟩ : ∃ x, fitE c e = x := ⟨_, rfl⟩
  have HR := Lib.hid hR
  rw [hR] at oF hsF hoF haF ⊢
  obtain ⟨cz, hcz⟩ : ∃ l, (entC zeroEnt).toArray = l := ⟨_, rfl⟩
  have HZZ : Hid (∀ W, (zeroValue 29).run Try.prog W = .ok (.agg cz) W) := fun W => by rw [← hcz]; exact zero_ent W
  rw [hcz] at hoF
  obtain ⟨lc, hlc⟩ : ∃ l, crtC c = l := ⟨_, rfl⟩
  obtain ⟨lz, hlz⟩ : ∃ l, zeros64.map U8 = l := ⟨_, rfl⟩
  obtain ⟨cF, hcF⟩ : ∃ l, (entC R).toArray = l := ⟨_, rfl⟩
  obtain ⟨ce, hce⟩ : ∃ l, (entC e).toArray = l := ⟨_, rfl⟩
  rw [hlc] at hsc hsc' h1c ⊢
  rw [hlz] at hb0 hsz
  rw [hcF] at hsF hoF haF ⊢
  rw [hce]
  have HLC := Lib.hid hlc
  have HLZ := Lib.hid hlz
  have HCF := Lib.hid hcF
  have HCE := Lib.hid hce
  have HE := Lib.hid he
  have HE1 := Lib.hid he1
  have HO1 := Lib.hid o1
  have hk1 : 0 + lc.length ≤ (entC e).length := by rw [← hlc, crtC_length hc, entC_length he]; omega
  have HCC := Lib.hid hc
  obtain ⟨fz, hfz⟩ : ∃ x, e.fz = x := ⟨_, rfl⟩
  obtain ⟨rv, hrv⟩ : ∃ x, e.rv = x := ⟨_, rfl⟩
  have HFZ := Lib.hid hfz
  have HRV := Lib.hid hrv
  clear hc he hR hcz hlc hlz hcF hce he1 o1 oF hfz hrv
  cases fz
  · cases rv
    · go_enter Try.func9, Try.ntmps9
      go_wp2_with (with_reducible refine arm_box (by with_unfolding_all exact rfl) ?_)
      intro b2 w2 hb2 k2 hU2 hz2
      change w2.heap[b2]? = some (.cells lc.toArray 27 (0, 0)) at k2
      go_wp2_with (with_reducible refine arm_box (by with_unfolding_all exact rfl) ?_)
      intro b3 w3 hb3 k3 hU3 hz3
      change w3.heap[b3]? = some (.cells ce 29 (0, 0)) at k3
      go_wp2_with (with_reducible refine arm_alloc (HZZ.out _) ?_)
      intro b4 w4 hb4 k4 hU4 hz4
      change w4.heap[b4]? = some (.cells cz 29 (0, 0)) at k4
      have k24 := hU4.heap (hU3.heap k2 (by simp)) (by simp)
      have k34 := hU4.heap k3 (by simp)
      rw [← HCE.out] at k34
      have hV4 := (hU2.trans hU3).trans hU4
      have hl3 : w.heap.size ≤ b3 := by have h1 := hU2.size; omega
      have hl4 : w.heap.size ≤ b4 := by have h1 := hU2.size; have h2 := hU3.size; omega
      have hne : b4 ≠ b3 := by have := lt_of_heap k3; omega
      clear k2 k3 hb2 hU2 hz2 hb3 hU3 hz3 hb4 hU4 hz4
      go_wp2_with (first
          | (with_reducible refine arm_load (by with_unfolding_all exact rfl) k24 Try.underlying27 (by with_unfolding_all exact rfl) hsc ?_)
          | (with_reducible refine arm_store_part (g := b3) (k := 0) (cs := lc) (by with_unfolding_all exact rfl) (by with_unfolding_all exact rfl) k34 (by with_unfolding_all exact rfl) hk1 hsc' h1c ?_))
      intro w5 k35 hX5 hz5
      rw [← HLC.out, splice_crt _ HE.out c HCC.out, HE1.out] at k35
      have k45 := hX5.heap k4 (by simpa using hne)
      have hV5 := hV4.trans' hX5 (fun i hm hi => by simp at hm; omega)
      clear k24 k34 k4 hV4 hX5 hz5
      have m3 : EntAt w5 b3 e1 := k35
      clear k35
      have q1 := m3.fz HO1.out
      rw [← HE1.out] at q1
      change w5.cell? _ = some (.bool e.fz) at q1
      rw [HFZ.out] at q1
      have hk6 : 133 + lz.length ≤ (entC e1).length := by rw [← HLZ.out, List.length_map, zeros64_len, entC_length HO1.out]; omega
      have kk : w5.heap[b3]? = some (.cells (entC e1).toArray 29 (0, 0)) := m3
      go_wp2_with (first
          | (with_reducible refine arm_build0 hb0 ?_)
          | (with_reducible refine arm_store_part (g := b3) (k := 133) (cs := lz) (by with_unfolding_all exact rfl) (by with_unfolding_all exact rfl) kk (by with_unfolding_all exact rfl) hk6 hsz (one_map HLZ.out) ?_))
      intro w6 kn hX hz
      rw [← HLZ.out, splice_fs _ HO1.out zeros64 zeros64_len] at kn
      obtain ⟨e6, hh⟩ : ∃ x, ({ e1 with fs := zeros64 } : Ent) = x := ⟨_, rfl⟩
      have HE6 := Lib.hid hh
      have HO6 : Hid e6.ok := by rw [← hh]; exact ⟨HO1.out.1, HO1.out.2.1, zeros64_len, HO1.out.2.2.2⟩
      rw [hh] at kn
      clear m3 hh kk hk6
      have m3 : EntAt w6 b3 e6 := kn
      have k46 := hX.heap k45 (by simpa using hne)
      have hV6 := hV5.trans' hX (fun i hm hi => by simp at hm; omega)
      clear hV5 kn hX hz k45
      clear q1
      have q2 := m3.rv HO6.out
      rw [← HE6.out, ← HE1.out] at q2
      change w6.cell? _ = some (.bool e.rv) at q2
      rw [HRV.out] at q2
      have hk7 : 198 + lz.length ≤ (entC e6).length := by rw [← HLZ.out, List.length_map, zeros64_len, entC_length HO6.out]; omega
      have kk : w6.heap[b3]? = some (.cells (entC e6).toArray 29 (0, 0)) := m3
      go_wp2_with (first
          | (with_reducible refine arm_build0 hb0 ?_)
          | (with_reducible refine arm_store_part (g := b3) (k := 198) (cs := lz) (by with_unfolding_all exact rfl) (by with_unfolding_all exact rfl) kk (by with_unfolding_all exact rfl) hk7 hsz (one_map HLZ.out) ?_))
      intro w7 kn hX hz
      rw [← HLZ.out, splice_rs _ HO6.out zeros64 zeros64_len] at kn
      obtain ⟨e7, hh⟩ : ∃ x, ({ e6 with rs := zeros64 } : Ent) = x := ⟨_, rfl⟩
      have HE7 := Lib.hid hh
      have HO7 : Hid e7.ok := by rw [← hh]; exact ⟨HO6.out.1, HO6.out.2.1, HO6.out.2.2.1, zeros64_len⟩
      rw [hh] at kn
      clear m3 hh kk hk7
      have m3 : EntAt w7 b3 e7 := kn
      have k47 := hX.heap k46 (by simpa using hne)
      have hV7 := hV6.trans' hX (fun i hm hi => by simp at hm; omega)
      clear hV6 kn hX hz k46
      clear q2
      have hEJ : e7 = R := by
        rw [← HR.out, ← HE7.out, ← HE6.out, ← HE1.out]
        simp [fitE, HFZ.out, HRV.out]
      rw [hEJ] at m3
      have m3c : w7.heap[b3]? = some (.cells cF 29 (0, 0)) := by rw [← HCF.out]; exact m3
      clear m3
      go_wp2_with (first
          | (with_reducible refine arm_load (by with_unfolding_all exact rfl) m3c Try.underlying29 (by with_unfolding_all exact rfl) hsF ?_)
          | (with_reducible refine arm_store (by with_unfolding_all exact rfl) (by with_unfolding_all exact rfl) k47 hsF hoF haF ?_))
      intro wz kz hXz hzz
      go_wp2_with (fail)
      refine bodyPost_ret (v := .agg cF) (results_cell_row rfl _ _ b4 29 _ (0, 0) _ rfl kz Try.underlying29 rfl hsF) rfl ⟨rfl, ?_⟩
      exact hV7.trans' hXz (fun i hm hi => by simp at hm; omega)
    · go_enter Try.func9, Try.ntmps9
      go_wp2_with (with_reducible refine arm_box (by with_unfolding_all exact rfl) ?_)
      intro b2 w2 hb2 k2 hU2 hz2
      change w2.heap[b2]? = some (.cells lc.toArray 27 (0, 0)) at k2
      go_wp2_with (with_reducible refine arm_box (by with_unfolding_all exact rfl) ?_)
      intro b3 w3 hb3 k3 hU3 hz3
      change w3.heap[b3]? = some (.cells ce 29 (0, 0)) at k3
      go_wp2_with (with_reducible refine arm_alloc (HZZ.out _) ?_)
      intro b4 w4 hb4 k4 hU4 hz4
      change w4.heap[b4]? = some (.cells cz 29 (0, 0)) at k4
      have k24 := hU4.heap (hU3.heap k2 (by simp)) (by simp)
      have k34 := hU4.heap k3 (by simp)
      rw [← HCE.out] at k34
      have hV4 := (hU2.trans hU3).trans hU4
      have hl3 : w.heap.size ≤ b3 := by have h1 := hU2.size; omega
      have hl4 : w.heap.size ≤ b4 := by have h1 := hU2.size; have h2 := hU3.size; omega
      have hne : b4 ≠ b3 := by have := lt_of_heap k3; omega
      clear k2 k3 hb2 hU2 hz2 hb3 hU3 hz3 hb4 hU4 hz4
      go_wp2_with (first
          | (with_reducible refine arm_load (by with_unfolding_all exact rfl) k24 Try.underlying27 (by with_unfolding_all exact rfl) hsc ?_)
          | (with_reducible refine arm_store_part (g := b3) (k := 0) (cs := lc) (by with_unfolding_all exact rfl) (by with_unfolding_all exact rfl) k34 (by with_unfolding_all exact rfl) hk1 hsc' h1c ?_))
      intro w5 k35 hX5 hz5
      rw [← HLC.out, splice_crt _ HE.out c HCC.out, HE1.out] at k35
      have k45 := hX5.heap k4 (by simpa using hne)
      have hV5 := hV4.trans' hX5 (fun i hm hi => by simp at hm; omega)
      clear k24 k34 k4 hV4 hX5 hz5
      have m3 : EntAt w5 b3 e1 := k35
      clear k35
      have q1 := m3.fz HO1.out
      rw [← HE1.out] at q1
      change w5.cell? _ = some (.bool e.fz) at q1
      rw [HFZ.out] at q1
      have hk6 : 133 + lz.length ≤ (entC e1).length := by rw [← HLZ.out, List.length_map, zeros64_len, entC_length HO1.out]; omega
      have kk : w5.heap[b3]? = some (.cells (entC e1).toArray 29 (0, 0)) := m3
      go_wp2_with (first
          | (with_reducible refine arm_build0 hb0 ?_)
          | (with_reducible refine arm_store_part (g := b3) (k := 133) (cs := lz) (by with_unfolding_all exact rfl) (by with_unfolding_all exact rfl) kk (by with_unfolding_all exact rfl) hk6 hsz (one_map HLZ.out) ?_))
      intro w6 kn hX hz
      rw [← HLZ.out, splice_fs _ HO1.out zeros64 zeros64_len] at kn
      obtain ⟨e6, hh⟩ : ∃ x, ({ e1 with fs := zeros64 } : Ent) = x := ⟨_, rfl⟩
      have HE6 := Lib.hid hh
      have HO6 : Hid e6.ok := by rw [← hh]; exact ⟨HO1.out.1, HO1.out.2.1, zeros64_len, HO1.out.2.2.2⟩
      rw [hh] at kn
      clear m3 hh kk hk6
      have m3 : EntAt w6 b3 e6 := kn
      have k46 := hX.heap k45 (by simpa using hne)
      have hV6 := hV5.trans' hX (fun i hm hi => by simp at hm; omega)
      clear hV5 kn hX hz k45
      clear q1
      have q2 := m3.rv HO6.out
      rw [← HE6.out, ← HE1.out] at q2
      change w6.cell? _ = some (.bool e.rv) at q2
      rw [HRV.out] at q2
      have hEJ : e6 = R := by
        rw [← HR.out, ← HE6.out, ← HE1.out]
        simp [fitE, HFZ.out, HRV.out]
      rw [hEJ] at m3
      have m3c : w6.heap[b3]? = some (.cells cF 29 (0, 0)) := by rw [← HCF.out]; exact m3
      clear m3
      go_wp2_with (first
          | (with_reducible refine arm_load (by with_unfolding_all exact rfl) m3c Try.underlying29 (by with_unfolding_all exact rfl) hsF ?_)
          | (with_reducible refine arm_store (by with_unfolding_all exact rfl) (by with_unfolding_all exact rfl) k46 hsF hoF haF ?_))
      intro wz kz hXz hzz
      go_wp2_with (fail)
      refine bodyPost_ret (v := .agg cF) (results_cell_row rfl _ _ b4 29 _ (0, 0) _ rfl kz Try.underlying29 rfl hsF) rfl ⟨rfl, ?_⟩
      exact hV6.trans' hXz (fun i hm hi => by simp at hm; omega)
  · cases rv
    · go_enter Try.func9, Try.ntmps9
      go_wp2_with (with_reducible refine arm_box (by with_unfolding_all exact rfl) ?_)
      intro b2 w2 hb2 k2 hU2 hz2
      change w2.heap[b2]? = some (.cells lc.toArray 27 (0, 0)) at k2
      go_wp2_with (with_reducible refine arm_box (by with_unfolding_all exact rfl) ?_)
      intro b3 w3 hb3 k3 hU3 hz3
      change w3.heap[b3]? = some (.cells ce 29 (0, 0)) at k3
      go_wp2_with (with_reducible refine arm_alloc (HZZ.out _) ?_)
      intro b4 w4 hb4 k4 hU4 hz4
      change w4.heap[b4]? = some (.cells cz 29 (0, 0)) at k4
      have k24 := hU4.heap (hU3.heap k2 (by simp)) (by simp)
      have k34 := hU4.heap k3 (by simp)
      rw [← HCE.out] at k34
      have hV4 := (hU2.trans hU3).trans hU4
      have hl3 : w.heap.size ≤ b3 := by have h1 := hU2.size; omega
      have hl4 : w.heap.size ≤ b4 := by have h1 := hU2.size; have h2 := hU3.size; omega
      have hne : b4 ≠ b3 := by have := lt_of_heap k3; omega
      clear k2 k3 hb2 hU2 hz2 hb3 hU3 hz3 hb4 hU4 hz4
      go_wp2_with (first
          | (with_reducible refine arm_load (by with_unfolding_all exact rfl) k24 Try.underlying27 (by with_unfolding_all exact rfl) hsc ?_)
          | (with_reducible refine arm_store_part (g := b3) (k := 0) (cs := lc) (by with_unfolding_all exact rfl) (by with_unfolding_all exact rfl) k34 (by with_unfolding_all exact rfl) hk1 hsc' h1c ?_))
      intro w5 k35 hX5 hz5
      rw [← HLC.out, splice_crt _ HE.out c HCC.out, HE1.out] at k35
      have k45 := hX5.heap k4 (by simpa using hne)
      have hV5 := hV4.trans' hX5 (fun i hm hi => by simp at hm; omega)
      clear k24 k34 k4 hV4 hX5 hz5
      have m3 : EntAt w5 b3 e1 := k35
      clear k35
      have q1 := m3.fz HO1.out
      rw [← HE1.out] at q1
      change w5.cell? _ = some (.bool e.fz) at q1
      rw [HFZ.out] at q1
      have q2 := m3.rv HO1.out
      rw [← HE1.out] at q2
      change w5.cell? _ = some (.bool e.rv) at q2
      rw [HRV.out] at q2
      have hk7 : 198 + lz.length ≤ (entC e1).length := by rw [← HLZ.out, List.length_map, zeros64_len, entC_length HO1.out]; omega
      have kk : w5.heap[b3]? = some (.cells (entC e1).toArray 29 (0, 0)) := m3
      go_wp2_with (first
          | (with_reducible refine arm_build0 hb0 ?_)
          | (with_reducible refine arm_store_part (g := b3) (k := 198) (cs := lz) (by with_unfolding_all exact rfl) (by with_unfolding_all exact rfl) kk (by with_unfolding_all exact rfl) hk7 hsz (one_map HLZ.out) ?_))
      intro w7 kn hX hz
      rw [← HLZ.out, splice_rs _ HO1.out zeros64 zeros64_len] at kn
      obtain ⟨e7, hh⟩ : ∃ x, ({ e1 with rs := zeros64 } : Ent) = x := ⟨_, rfl⟩
      have HE7 := Lib.hid hh
      have HO7 : Hid e7.ok := by rw [← hh]; exact ⟨HO1.out.1, HO1.out.2.1, HO1.out.2.2.1, zeros64_len⟩
      rw [hh] at kn
      clear m3 hh kk hk7
      have m3 : EntAt w7 b3 e7 := kn
      have k47 := hX.heap k45 (by simpa using hne)
      have hV7 := hV5.trans' hX (fun i hm hi => by simp at hm; omega)
      clear hV5 kn hX hz k45
      clear q2
      have hEJ : e7 = R := by
        rw [← HR.out, ← HE7.out, ← HE1.out]
        simp [fitE, HFZ.out, HRV.out]
      rw [hEJ] at m3
      have m3c : w7.heap[b3]? = some (.cells cF 29 (0, 0)) := by rw [← HCF.out]; exact m3
      clear m3
      go_wp2_with (first
          | (with_reducible refine arm_load (by with_unfolding_all exact rfl) m3c Try.underlying29 (by with_unfolding_all exact rfl) hsF ?_)
          | (with_reducible refine arm_store (by with_unfolding_all exact rfl) (by with_unfolding_all exact rfl) k47 hsF hoF haF ?_))
      intro wz kz hXz hzz
      go_wp2_with (fail)
      refine bodyPost_ret (v := .agg cF) (results_cell_row rfl _ _ b4 29 _ (0, 0) _ rfl kz Try.underlying29 rfl hsF) rfl ⟨rfl, ?_⟩
      exact hV7.trans' hXz (fun i hm hi => by simp at hm; omega)
    · go_enter Try.func9, Try.ntmps9
      go_wp2_with (with_reducible refine arm_box (by with_unfolding_all exact rfl) ?_)
      intro b2 w2 hb2 k2 hU2 hz2
      change w2.heap[b2]? = some (.cells lc.toArray 27 (0, 0)) at k2
      go_wp2_with (with_reducible refine arm_box (by with_unfolding_all exact rfl) ?_)
      intro b3 w3 hb3 k3 hU3 hz3
      change w3.heap[b3]? = some (.cells ce 29 (0, 0)) at k3
      go_wp2_with (with_reducible refine arm_alloc (HZZ.out _) ?_)
      intro b4 w4 hb4 k4 hU4 hz4
      change w4.heap[b4]? = some (.cells cz 29 (0, 0)) at k4
      have k24 := hU4.heap (hU3.heap k2 (by simp)) (by simp)
      have k34 := hU4.heap k3 (by simp)
      rw [← HCE.out] at k34
      have hV4 := (hU2.trans hU3).trans hU4
      have hl3 : w.heap.size ≤ b3 := by have h1 := hU2.size; omega
      have hl4 : w.heap.size ≤ b4 := by have h1 := hU2.size; have h2 := hU3.size; omega
      have hne : b4 ≠ b3 := by have := lt_of_heap k3; omega
      clear k2 k3 hb2 hU2 hz2 hb3 hU3 hz3 hb4 hU4 hz4
      go_wp2_with (first
          | (with_reducible refine arm_load (by with_unfolding_all exact rfl) k24 Try.underlying27 (by with_unfolding_all exact rfl) hsc ?_)
          | (with_reducible refine arm_store_part (g := b3) (k := 0) (cs := lc) (by with_unfolding_all exact rfl) (by with_unfolding_all exact rfl) k34 (by with_unfolding_all exact rfl) hk1 hsc' h1c ?_))
      intro w5 k35 hX5 hz5
      rw [← HLC.out, splice_crt _ HE.out c HCC.out, HE1.out] at k35
      have k45 := hX5.heap k4 (by simpa using hne)
      have hV5 := hV4.trans' hX5 (fun i hm hi => by simp at hm; omega)
      clear k24 k34 k4 hV4 hX5 hz5
      have m3 : EntAt w5 b3 e1 := k35
      clear k35
      have q1 := m3.fz HO1.out
      rw [← HE1.out] at q1
      change w5.cell? _ = some (.bool e.fz) at q1
      rw [HFZ.out] at q1
      have q2 := m3.rv HO1.out
      rw [← HE1.out] at q2
      change w5.cell? _ = some (.bool e.rv) at q2
      rw [HRV.out] at q2
      have hEJ : e1 = R := by
        rw [← HR.out, ← HE1.out]
        simp [fitE, HFZ.out, HRV.out]
      rw [hEJ] at m3
      have m3c : w5.heap[b3]? = some (.cells cF 29 (0, 0)) := by rw [← HCF.out]; exact m3
      clear m3
      go_wp2_with (first
          | (with_reducible refine arm_load (by with_unfolding_all exact rfl) m3c Try.underlying29 (by with_unfolding_all exact rfl) hsF ?_)
          | (with_reducible refine arm_store (by with_unfolding_all exact rfl) (by with_unfolding_all exact rfl) k45 hsF hoF haF ?_))
      intro wz kz hXz hzz
      go_wp2_with (fail)
      refine bodyPost_ret (v := .agg cF) (results_cell_row rfl _ _ b4 29 _ (0, 0) _ rfl kz Try.underlying29 rfl hsF) rfl ⟨rfl, ?_⟩
      exact hV5.trans' hXz (fun i hm hi => by simp at hm; omega)
end Go.Proofs.Ytjoliagnhmfdiaa
