/-
  Mac256, Mac512, Extract.
-/
import Derived.Test.YtgpieipflidkpaaDoorMacKeyedW
namespace Go.Proofs.YtgpieipflidkpaaDoor
open Go Go.RowKit Go.Proofs
set_option maxRecDepth 100000 in
set_option maxHeartbeats 1600000 in
theorem keyedmake256 (w : World) :
    Calls Tryd.prog 21 #[.int .i64 64, .func (.func 13) #[] #[], .func (.func 22) #[] #[]] w fun e w' => ∃ b2 b3 b4, e = .returned (.func (.func 42) #[] #[.pointer (some ⟨b2, 0, none⟩), .pointer (some ⟨b3, 0, none⟩), .pointer (some ⟨b4, 0, none⟩)]) ∧
      w'.cell? ⟨b2, 0, none⟩ = some (.int .i64 64) ∧ w'.cell? ⟨b3, 0, none⟩ = some (.func (.func 22) #[] #[]) ∧ w'.cell? ⟨b4, 0, none⟩ = some (.func (.func 13) #[] #[]) ∧ Upd [] w w' := by
  go_enter Tryd.func21, Tryd.ntmps21
  go_wp2_with (with_reducible refine arm_box (by with_unfolding_all exact rfl) ?_)
  intro b2 w1 hb2 k2 hU1 hz1
  clear hb2 hz1
  have q2 := cell_of_row _ _ 0 _ _ _ k2
  go_wp2_with (with_reducible refine arm_box (by with_unfolding_all exact rfl) ?_)
  intro b4 w2 hb4 k4 hU2 hz2
  clear hb4 hz2
  have q4 := cell_of_row _ _ 0 _ _ _ k4
  go_wp2_with (with_reducible refine arm_box (by with_unfolding_all exact rfl) ?_)
  intro b3 w3 hb3 k3 hU3 hz3
  clear hb3 hz3
  have q3 := cell_of_row _ _ 0 _ _ _ k3
  have r2 := hU3.cell (hU2.cell q2 (by simp)) (by simp)
  have r4 := hU3.cell q4 (by simp)
  have hV := (hU1.trans hU2).trans hU3
  clear q2 q4 k2 k3 k4 hU1 hU2 hU3
  go_wp2
  go_ret
  exact ⟨_, _, _, rfl, r2, q3, r4, hV⟩
set_option maxRecDepth 100000 in
set_option maxHeartbeats 1600000 in
theorem mac256 (w : World) (kv mv : Value) (key msg : List (BitVec 8)) (hk : RdB w kv key) (hm : RdB w mv msg) (hml : msg.length ≤ 100000) (hkl : key.length ≤ 100000) (hg : Gl256 w) (hf : GlFirst256 w) :
    Calls Tryd.prog 9 #[kv, mv] w fun e w' => e = .returned (.agg ((hmac256 key msg).map U8).toArray) ∧ Upd [] w w' := by
  obtain ⟨H, hH⟩ : ∃ H, hmac256 key msg = H := ⟨_, rfl⟩
  have hHl : H.length = 32 := by rw [← hH]; exact hmac256_length key msg
  have hs := szrow256 hHl
  have ho := sameZ256 hHl
  have ha : ((H.map U8).toArray).all (·.oneCell') = true := by simp
  have HK := Lib.hid hk
  have HM := Lib.hid hm
  have HG := Lib.hid hg
  have HFI := Lib.hid hf
  have HC : Hid (∀ W b2 b3 b4, Upd [] w W → W.cell? ⟨b2, 0, none⟩ = some (.int .i64 64) → W.cell? ⟨b3, 0, none⟩ = some (.func (.func 22) #[] #[]) → W.cell? ⟨b4, 0, none⟩ = some (.func (.func 13) #[] #[]) →
      Calls Tryd.prog 42 #[kv, mv, .pointer (some ⟨b2, 0, none⟩), .pointer (some ⟨b3, 0, none⟩), .pointer (some ⟨b4, 0, none⟩)] W fun e w' => e = .returned (.agg (H.map U8).toArray) ∧ Upd [] W w') := fun W b2 b3 b4 hW h2 h3 h4 => by
    have := keyed256 W kv mv key msg b2 b3 b4 h2 h3 h4 (HK.out.upd0 hW) (HM.out.upd0 hW) hml hkl (HG.out.upd hW (by simp)) (HFI.out.upd hW (by simp))
    rwa [hH] at this
  rw [hH]
  obtain ⟨c, hc⟩ : ∃ c, (H.map U8).toArray = c := ⟨_, rfl⟩
  rw [hc] at HC hs ho ha ⊢
  have HCC := Lib.hid hc
  clear hk hm hg hf hH hHl hc
  go_enter Tryd.func9, Tryd.ntmps9
  go_wp2_with (with_reducible refine arm_alloc (zero256 _) ?_)
  intro b w1 hb kz hU1 hz1
  change w1.heap[b]? = some (.cells (zrow8 32) 23 (0, 0)) at kz
  have hlt : w.heap.size ≤ b := by omega
  clear hb hz1
  go_wp2_with (fail)
  with_reducible refine (keyedmake256 _).mono ?_
  rintro e w2 ⟨b2, b3, b4, rfl, h2, h3, h4, hU2⟩
  have hV2 := hU1.trans hU2
  have kz2 := hU2.heap kz (by simp)
  clear hU1 hU2 kz
  go_wp2_with (fail)
  with_reducible refine (HC.out _ _ _ _ hV2 h2 h3 h4).mono ?_
  rintro e w3 ⟨rfl, hU3⟩
  have hV3 := hV2.trans hU3
  have kz3 := hU3.heap kz2 (by simp)
  clear hU3 hV2 kz2 h2 h3 h4
  go_wp2_with (with_reducible refine arm_store (by with_unfolding_all exact rfl) (by with_unfolding_all exact rfl) kz3 hs ho ha ?_)
  intro w4 k4 hX4 hz4
  have hV4 := hV3.trans' hX4 (fun i hm hi => by simp at hm; omega)
  go_wp2
  exact bodyPost_ret (v := .agg c) (results_cell_row rfl _ _ b 23 _ (0, 0) _ rfl k4 Tryd.underlying23 rfl hs) rfl ⟨rfl, hV4⟩
set_option maxRecDepth 100000 in
set_option maxHeartbeats 1600000 in
theorem keyedmake512 (w : World) :
    Calls Tryd.prog 24 #[.int .i64 128, .func (.func 16) #[] #[], .func (.func 25) #[] #[]] w fun e w' => ∃ b2 b3 b4, e = .returned (.func (.func 45) #[] #[.pointer (some ⟨b2, 0, none⟩), .pointer (some ⟨b3, 0, none⟩), .pointer (some ⟨b4, 0, none⟩)]) ∧
      w'.cell? ⟨b2, 0, none⟩ = some (.int .i64 128) ∧ w'.cell? ⟨b3, 0, none⟩ = some (.func (.func 25) #[] #[]) ∧ w'.cell? ⟨b4, 0, none⟩ = some (.func (.func 16) #[] #[]) ∧ Upd [] w w' := by
  go_enter Tryd.func24, Tryd.ntmps24
  go_wp2_with (with_reducible refine arm_box (by with_unfolding_all exact rfl) ?_)
  intro b2 w1 hb2 k2 hU1 hz1
  clear hb2 hz1
  have q2 := cell_of_row _ _ 0 _ _ _ k2
  go_wp2_with (with_reducible refine arm_box (by with_unfolding_all exact rfl) ?_)
  intro b4 w2 hb4 k4 hU2 hz2
  clear hb4 hz2
  have q4 := cell_of_row _ _ 0 _ _ _ k4
  go_wp2_with (with_reducible refine arm_box (by with_unfolding_all exact rfl) ?_)
  intro b3 w3 hb3 k3 hU3 hz3
  clear hb3 hz3
  have q3 := cell_of_row _ _ 0 _ _ _ k3
  have r2 := hU3.cell (hU2.cell q2 (by simp)) (by simp)
  have r4 := hU3.cell q4 (by simp)
  have hV := (hU1.trans hU2).trans hU3
  clear q2 q4 k2 k3 k4 hU1 hU2 hU3
  go_wp2
  go_ret
  exact ⟨_, _, _, rfl, r2, q3, r4, hV⟩
set_option maxRecDepth 100000 in
set_option maxHeartbeats 1600000 in
theorem mac512 (w : World) (kv mv : Value) (key msg : List (BitVec 8)) (hk : RdB w kv key) (hm : RdB w mv msg) (hml : msg.length ≤ 100000) (hkl : key.length ≤ 100000) (hg : Gl512 w) (hf : GlFirst512 w) :
    Calls Tryd.prog 12 #[kv, mv] w fun e w' => e = .returned (.agg ((hmac512 key msg).map U8).toArray) ∧ Upd [] w w' := by
  obtain ⟨H, hH⟩ : ∃ H, hmac512 key msg = H := ⟨_, rfl⟩
  have hHl : H.length = 64 := by rw [← hH]; exact hmac512_length key msg
  have hs := szrow512 hHl
  have ho := sameZ512 hHl
  have ha : ((H.map U8).toArray).all (·.oneCell') = true := by simp
  have HK := Lib.hid hk
  have HM := Lib.hid hm
  have HG := Lib.hid hg
  have HFI := Lib.hid hf
  have HC : Hid (∀ W b2 b3 b4, Upd [] w W → W.cell? ⟨b2, 0, none⟩ = some (.int .i64 128) → W.cell? ⟨b3, 0, none⟩ = some (.func (.func 25) #[] #[]) → W.cell? ⟨b4, 0, none⟩ = some (.func (.func 16) #[] #[]) →
      Calls Tryd.prog 45 #[kv, mv, .pointer (some ⟨b2, 0, none⟩), .pointer (some ⟨b3, 0, none⟩), .pointer (some ⟨b4, 0, none⟩)] W fun e w' => e = .returned (.agg (H.map U8).toArray) ∧ Upd [] W w') := fun W b2 b3 b4 hW h2 h3 h4 => by
    have := keyed512 W kv mv key msg b2 b3 b4 h2 h3 h4 (HK.out.upd0 hW) (HM.out.upd0 hW) hml hkl (HG.out.upd hW (by simp)) (HFI.out.upd hW (by simp))
    rwa [hH] at this
  rw [hH]
  obtain ⟨c, hc⟩ : ∃ c, (H.map U8).toArray = c := ⟨_, rfl⟩
  rw [hc] at HC hs ho ha ⊢
  have HCC := Lib.hid hc
  clear hk hm hg hf hH hHl hc
  go_enter Tryd.func12, Tryd.ntmps12
  go_wp2_with (with_reducible refine arm_alloc (zero512 _) ?_)
  intro b w1 hb kz hU1 hz1
  change w1.heap[b]? = some (.cells (zrow8 64) 36 (0, 0)) at kz
  have hlt : w.heap.size ≤ b := by omega
  clear hb hz1
  go_wp2_with (fail)
  with_reducible refine (keyedmake512 _).mono ?_
  rintro e w2 ⟨b2, b3, b4, rfl, h2, h3, h4, hU2⟩
  have hV2 := hU1.trans hU2
  have kz2 := hU2.heap kz (by simp)
  clear hU1 hU2 kz
  go_wp2_with (fail)
  with_reducible refine (HC.out _ _ _ _ hV2 h2 h3 h4).mono ?_
  rintro e w3 ⟨rfl, hU3⟩
  have hV3 := hV2.trans hU3
  have kz3 := hU3.heap kz2 (by simp)
  clear hU3 hV2 kz2 h2 h3 h4
  go_wp2_with (with_reducible refine arm_store (by with_unfolding_all exact rfl) (by with_unfolding_all exact rfl) kz3 hs ho ha ?_)
  intro w4 k4 hX4 hz4
  have hV4 := hV3.trans' hX4 (fun i hm hi => by simp at hm; omega)
  go_wp2
  exact bodyPost_ret (v := .agg c) (results_cell_row rfl _ _ b 36 _ (0, 0) _ rfl k4 Tryd.underlying36 rfl hs) rfl ⟨rfl, hV4⟩
set_option maxRecDepth 100000 in
set_option maxHeartbeats 1600000 in
theorem extract_ (w : World) (kv mv : Value) (key msg : List (BitVec 8)) (hk : RdB w kv key) (hm : RdB w mv msg) (hml : msg.length ≤ 100000) (hkl : key.length ≤ 100000) (hg : Gl256 w) (hf : GlFirst256 w) :
    Calls Tryd.prog 15 #[kv, mv] w fun e w' => e = .returned (.agg ((hmac256 key msg).map U8).toArray) ∧ Upd [] w w' := by
  obtain ⟨H, hH⟩ : ∃ H, hmac256 key msg = H := ⟨_, rfl⟩
  have hHl : H.length = 32 := by rw [← hH]; exact hmac256_length key msg
  have hs := szrow256 hHl
  have ho := sameZ256 hHl
  have ha : ((H.map U8).toArray).all (·.oneCell') = true := by simp
  have HC : Hid (∀ W, Upd [] w W → Calls Tryd.prog 9 #[kv, mv] W fun e w' => e = .returned (.agg (H.map U8).toArray) ∧ Upd [] W w') := fun W hW => by
    have := mac256 W kv mv key msg (hk.upd0 hW) (hm.upd0 hW) hml hkl (hg.upd hW (by simp)) (hf.upd hW (by simp))
    rwa [hH] at this
  rw [hH]
  obtain ⟨c, hc⟩ : ∃ c, (H.map U8).toArray = c := ⟨_, rfl⟩
  rw [hc] at HC hs ho ha ⊢
  clear hk hm hg hf hH hHl hc
  go_enter Tryd.func15, Tryd.ntmps15
  go_wp2_with (with_reducible refine arm_alloc (zero256 _) ?_)
  intro b w1 hb kz hU1 hz1
  change w1.heap[b]? = some (.cells (zrow8 32) 23 (0, 0)) at kz
  have hlt : w.heap.size ≤ b := by omega
  clear hb hz1
  go_wp2_with (fail)
  with_reducible refine (HC.out _ hU1).mono ?_
  rintro e w3 ⟨rfl, hU3⟩
  have hV3 := hU1.trans hU3
  have kz3 := hU3.heap kz (by simp)
  clear hU3 hU1 kz
  go_wp2_with (with_reducible refine arm_store (by with_unfolding_all exact rfl) (by with_unfolding_all exact rfl) kz3 hs ho ha ?_)
  intro w4 k4 hX4 hz4
  have hV4 := hV3.trans' hX4 (fun i hm hi => by simp at hm; omega)
  go_wp2
  exact bodyPost_ret (v := .agg c) (results_cell_row rfl _ _ b 23 _ (0, 0) _ rfl k4 Tryd.underlying23 rfl hs) rfl ⟨rfl, hV4⟩
end Go.Proofs.YtgpieipflidkpaaDoor
