/-
  The law ChainAddsUp.
-/
import Derived.Test.YtldhjpliknfhiaaDoorLawSteps15
namespace Go.Proofs.YtldhjpliknfhiaaDoor
open Go Go.RowKit Go.Proofs
theorem iter_ok (m : List (BitVec 8)) (n : Nat) (h : n ≤ 4096) : iterOf m n = (steps m n, true) := by
  unfold iterOf; rw [if_neg (by omega)]; simp
set_option maxRecDepth 100000 in
set_option maxHeartbeats 6400000 in
theorem law_addsup15 (w : World) (m : List (BitVec 8)) (a b : Int) (hm : m.length = 32) (hg : Gl256 w) (hf : GlFirst256 w) :
    Calls Tryd.prog 4 #[.agg (m.map U8).toArray, .int .i64 a, .int .i64 b] w fun x w' => x = .returned (.bool true) ∧ Upd [] w w' := by
  obtain ⟨B, hB⟩ : ∃ B, w.heap.size = B := ⟨_, rfl⟩
  have h3 := fun w h1 h2 => step_ w m hm h1 h2
  have h4 := fun w v h1 h3 h4 => sum256 w v m h1 (by omega) h3 h4
  have hIT := fun w n h1 h2 => iterate_ w m n hm h1 h2
  obtain ⟨S, hS⟩ : ∃ S, sha256 m = S := ⟨_, rfl⟩
  have hSl : S.length = 32 := by rw [← hS]; exact sha256_length m
  rw [hS] at h3 h4
  have hrd := fun (w : World) (h : w.heap[B]? = some (.cells (m.map U8).toArray 23 (0, 0))) => rd_row h hm
  obtain ⟨cs, hcs⟩ : ∃ cs, (m.map U8).toArray = cs := ⟨_, rfl⟩
  have hs1 := size_of32 hm
  rw [hcs] at h3 hs1 hIT ⊢
  simp only [hcs] at hrd
  have hq2 := fun w => neq_h32 S S hSl hSl w
  have hgd := guard_h32
  simp only [bne_self_eq_false] at hq2
  obtain ⟨ct, hct⟩ : ∃ cs, (S.map U8).toArray = cs := ⟨_, rfl⟩
  simp only [hct] at h3 h4 hq2
  have H3 := Lib.hid h3
  have H4 := Lib.hid h4
  have HIT := Lib.hid hIT
  have HRD := Lib.hid hrd
  have HG := Lib.hid hg
  have HF := Lib.hid hf
  clear h3 h4 hIT hrd hg hf hcs hct hS
  by_cases hbad : a < 0 ∨ b < 0 ∨ a > 4096 ∨ b > 4096 - a
  · by_cases c1 : a < 0
    · clear hbad
      go_enter Tryd.func4, Tryd.ntmps4
      go_upto_region 1 with (fail)
      generalize hw1 : World.alloc w _ = w1
      have hV1 : Upd [] w w1 := by rw [← hw1]; exact (Upd.refl _ w).alloc _
      have h1 : w1.heap[B]? = some (.cells cs 23 (0, 0)) := by rw [← hw1]; exact hget_new hB.symm
      clear hw1
      have hQB : Hid (∀ w', Upd [] w1 w' → ∃ t fr, w'.heap[B]? = some (.cells cs t fr)) := fun w' h => ⟨_, _, h.heap h1 (by simp)⟩
      have hQR : Hid (∀ w', Upd [] w1 w' → RdB w' (.slice (some ⟨B, 0, none⟩) 32 32) m) := fun w' h => HRD.out _ (h.heap h1 (by simp))
      have HG1 := Lib.hid (HG.out.upd hV1 (by simp))
      have HF1 := Lib.hid (HF.out.upd hV1 (by simp))
      refine wp_region_quiet_all (Upd [] w1) (by kernel_rfl) (by kernel_rfl) (Upd.refl _ _).drew ?_
      repeat (first
        | (refine wpQuiet_val rfl (quiet_load_row 23 _ rfl B rfl _ hQB.out Tryd.underlying23 rfl hs1) ?_)
        | (refine wpQuiet_step (fun K hK => ?_)
           go_simp
           first
             | (refine ⟨_, fun _ _ => rfl, hK _ ?_⟩; clear hK K)
             | (refine ⟨_, fun w2 hw2 => (H3.out w2 (HG1.out.upd hw2 (by simp)) (HF1.out.upd hw2 (by simp))).mono (fun e w' h => ⟨h.1, hw2.trans h.2⟩), hK _ ?_⟩; clear hK K)
             | (refine ⟨_, fun w2 hw2 => (H4.out w2 _ (hQR.out _ hw2) (HG1.out.upd hw2 (by simp)) (HF1.out.upd hw2 (by simp))).mono (fun e w' h => ⟨h.1, hw2.trans h.2⟩), hK _ ?_⟩; clear hK K)
             | (refine hK _ ?_; clear hK K)))
      refine wpQuiet_nil ?_
      intro w2 hU2
      have hV2 := hV1.trans hU2
      have h2 := hU2.heap h1 (by simp)
      clear hV1 hU2 h1 hQB hQR HG1 HF1
      go_wp2
      go_ret
      exact ⟨rfl, hV2⟩
    · by_cases c2 : b < 0
      · clear hbad
        go_enter Tryd.func4, Tryd.ntmps4
        go_upto_region 1 with (fail)
        generalize hw1 : World.alloc w _ = w1
        have hV1 : Upd [] w w1 := by rw [← hw1]; exact (Upd.refl _ w).alloc _
        have h1 : w1.heap[B]? = some (.cells cs 23 (0, 0)) := by rw [← hw1]; exact hget_new hB.symm
        clear hw1
        have hQB : Hid (∀ w', Upd [] w1 w' → ∃ t fr, w'.heap[B]? = some (.cells cs t fr)) := fun w' h => ⟨_, _, h.heap h1 (by simp)⟩
        have hQR : Hid (∀ w', Upd [] w1 w' → RdB w' (.slice (some ⟨B, 0, none⟩) 32 32) m) := fun w' h => HRD.out _ (h.heap h1 (by simp))
        have HG1 := Lib.hid (HG.out.upd hV1 (by simp))
        have HF1 := Lib.hid (HF.out.upd hV1 (by simp))
        refine wp_region_quiet_all (Upd [] w1) (by kernel_rfl) (by kernel_rfl) (Upd.refl _ _).drew ?_
        repeat (first
          | (refine wpQuiet_val rfl (quiet_load_row 23 _ rfl B rfl _ hQB.out Tryd.underlying23 rfl hs1) ?_)
          | (refine wpQuiet_step (fun K hK => ?_)
             go_simp
             first
               | (refine ⟨_, fun _ _ => rfl, hK _ ?_⟩; clear hK K)
               | (refine ⟨_, fun w2 hw2 => (H3.out w2 (HG1.out.upd hw2 (by simp)) (HF1.out.upd hw2 (by simp))).mono (fun e w' h => ⟨h.1, hw2.trans h.2⟩), hK _ ?_⟩; clear hK K)
               | (refine ⟨_, fun w2 hw2 => (H4.out w2 _ (hQR.out _ hw2) (HG1.out.upd hw2 (by simp)) (HF1.out.upd hw2 (by simp))).mono (fun e w' h => ⟨h.1, hw2.trans h.2⟩), hK _ ?_⟩; clear hK K)
               | (refine hK _ ?_; clear hK K)))
        refine wpQuiet_nil ?_
        intro w2 hU2
        have hV2 := hV1.trans hU2
        have h2 := hU2.heap h1 (by simp)
        clear hV1 hU2 h1 hQB hQR HG1 HF1
        go_wp2
        go_ret
        exact ⟨rfl, hV2⟩
      · by_cases c3 : a > 4096
        · clear hbad
          go_enter Tryd.func4, Tryd.ntmps4
          go_upto_region 1 with (fail)
          generalize hw1 : World.alloc w _ = w1
          have hV1 : Upd [] w w1 := by rw [← hw1]; exact (Upd.refl _ w).alloc _
          have h1 : w1.heap[B]? = some (.cells cs 23 (0, 0)) := by rw [← hw1]; exact hget_new hB.symm
          clear hw1
          have hQB : Hid (∀ w', Upd [] w1 w' → ∃ t fr, w'.heap[B]? = some (.cells cs t fr)) := fun w' h => ⟨_, _, h.heap h1 (by simp)⟩
          have hQR : Hid (∀ w', Upd [] w1 w' → RdB w' (.slice (some ⟨B, 0, none⟩) 32 32) m) := fun w' h => HRD.out _ (h.heap h1 (by simp))
          have HG1 := Lib.hid (HG.out.upd hV1 (by simp))
          have HF1 := Lib.hid (HF.out.upd hV1 (by simp))
          refine wp_region_quiet_all (Upd [] w1) (by kernel_rfl) (by kernel_rfl) (Upd.refl _ _).drew ?_
          repeat (first
            | (refine wpQuiet_val rfl (quiet_load_row 23 _ rfl B rfl _ hQB.out Tryd.underlying23 rfl hs1) ?_)
            | (refine wpQuiet_step (fun K hK => ?_)
               go_simp
               first
                 | (refine ⟨_, fun _ _ => rfl, hK _ ?_⟩; clear hK K)
                 | (refine ⟨_, fun w2 hw2 => (H3.out w2 (HG1.out.upd hw2 (by simp)) (HF1.out.upd hw2 (by simp))).mono (fun e w' h => ⟨h.1, hw2.trans h.2⟩), hK _ ?_⟩; clear hK K)
                 | (refine ⟨_, fun w2 hw2 => (H4.out w2 _ (hQR.out _ hw2) (HG1.out.upd hw2 (by simp)) (HF1.out.upd hw2 (by simp))).mono (fun e w' h => ⟨h.1, hw2.trans h.2⟩), hK _ ?_⟩; clear hK K)
                 | (refine hK _ ?_; clear hK K)))
          refine wpQuiet_nil ?_
          intro w2 hU2
          have hV2 := hV1.trans hU2
          have h2 := hU2.heap h1 (by simp)
          clear hV1 hU2 h1 hQB hQR HG1 HF1
          go_wp2
          go_ret
          exact ⟨rfl, hV2⟩
        · have c4 : b > 4096 - a := by omega
          clear hbad
          go_enter Tryd.func4, Tryd.ntmps4
          go_upto_region 1 with (fail)
          generalize hw1 : World.alloc w _ = w1
          have hV1 : Upd [] w w1 := by rw [← hw1]; exact (Upd.refl _ w).alloc _
          have h1 : w1.heap[B]? = some (.cells cs 23 (0, 0)) := by rw [← hw1]; exact hget_new hB.symm
          clear hw1
          have hQB : Hid (∀ w', Upd [] w1 w' → ∃ t fr, w'.heap[B]? = some (.cells cs t fr)) := fun w' h => ⟨_, _, h.heap h1 (by simp)⟩
          have hQR : Hid (∀ w', Upd [] w1 w' → RdB w' (.slice (some ⟨B, 0, none⟩) 32 32) m) := fun w' h => HRD.out _ (h.heap h1 (by simp))
          have HG1 := Lib.hid (HG.out.upd hV1 (by simp))
          have HF1 := Lib.hid (HF.out.upd hV1 (by simp))
          refine wp_region_quiet_all (Upd [] w1) (by kernel_rfl) (by kernel_rfl) (Upd.refl _ _).drew ?_
          repeat (first
            | (refine wpQuiet_val rfl (quiet_load_row 23 _ rfl B rfl _ hQB.out Tryd.underlying23 rfl hs1) ?_)
            | (refine wpQuiet_step (fun K hK => ?_)
               go_simp
               first
                 | (refine ⟨_, fun _ _ => rfl, hK _ ?_⟩; clear hK K)
                 | (refine ⟨_, fun w2 hw2 => (H3.out w2 (HG1.out.upd hw2 (by simp)) (HF1.out.upd hw2 (by simp))).mono (fun e w' h => ⟨h.1, hw2.trans h.2⟩), hK _ ?_⟩; clear hK K)
                 | (refine ⟨_, fun w2 hw2 => (H4.out w2 _ (hQR.out _ hw2) (HG1.out.upd hw2 (by simp)) (HF1.out.upd hw2 (by simp))).mono (fun e w' h => ⟨h.1, hw2.trans h.2⟩), hK _ ?_⟩; clear hK K)
                 | (refine hK _ ?_; clear hK K)))
          refine wpQuiet_nil ?_
          intro w2 hU2
          have hV2 := hV1.trans hU2
          have h2 := hU2.heap h1 (by simp)
          clear hV1 hU2 h1 hQB hQR HG1 HF1
          go_wp2
          go_ret
          exact ⟨rfl, hV2⟩
  · obtain ⟨A, rfl⟩ : ∃ N : Nat, a = N := ⟨a.toNat, by omega⟩
    obtain ⟨C, rfl⟩ : ∃ N : Nat, b = N := ⟨b.toNat, by omega⟩
    have hA : A ≤ 4096 := by omega
    have hC : C ≤ 4096 - A := by omega
    have q1 : ¬ ((A : Int) < 0) := by omega
    have q2 : ¬ ((C : Int) < 0) := by omega
    have q3 : ¬ ((4096 : Int) < (A : Int)) := by omega
    have q4 : ¬ ((4096 : Int) - (A : Int) < (C : Int)) := by omega
    clear hbad
    have hX := steps_length m hm A
    have hZ := steps_length m hm (A + C)
    have e1 := iter_ok m A hA
    have e2 := iter_ok (steps m A) C (by omega)
    rw [steps_add] at e2
    have e3 := iter_ok m (A + C) (by omega)
    have i2 := fun w h1 h2 => iterate_ w (steps m A) C hX h1 h2
    rw [e2] at i2
    have i1 := fun w h1 h2 => HIT.out w A h1 h2
    rw [e1] at i1
    have i3 := fun w h1 h2 => HIT.out w ((A : Int) + C) h1 h2
    rw [show iterOf m ((A : Int) + C) = _ from e3] at i3
    have i5 := fun w h1 h2 => step_ w (steps m (A + C)) hZ h1 h2
    rw [show sha256 (steps m (A + C)) = steps m (A + C + 1) from rfl] at i5
    have hW := steps_length m hm (A + C + 1)
    have e4 := fun h => iter_ok m (A + C + 1) h
    obtain ⟨X, hx⟩ : ∃ X, steps m A = X := ⟨_, rfl⟩
    obtain ⟨Z, hz⟩ : ∃ X, steps m (A + C) = X := ⟨_, rfl⟩
    obtain ⟨Y, hw⟩ : ∃ X, steps m (A + C + 1) = X := ⟨_, rfl⟩
    simp only [hx, hz, hw] at hX hZ hW i1 i2 i3 i5 e4
    have hsX := size_of32 hX
    have hoX := same_size32 hX
    have haX := one_of32 X
    have hsZ := size_of32 hZ
    have hoZ := same_size32 hZ
    have haZ := one_of32 Z
    have hsY := size_of32 hW
    have hoY := same_size32 hW
    have haY := one_of32 Y
    have hq3 := fun w => neq_h32 Z Z hZ hZ w
    have hq4 := fun w => eql_h32 Y Y hW hW w
    simp only [bne_self_eq_false, beq_self_eq_true] at hq3 hq4
    have i4 : ¬ (A + C = 4096) → ∀ w, Gl256 w → GlFirst256 w → Calls Tryd.prog 12 #[.agg cs, .int .i64 ((A : Int) + C + 1)] w fun e w' => e = .returned (.tuple #[.agg (Y.map U8).toArray, .bool true]) ∧ Upd [] w w' := fun h w h1 h2 => by
      have h0 := HIT.out w ((A : Int) + C + 1) h1 h2
      have e : iterOf m ((A : Int) + C + 1) = (Y, true) := by rw [show ((A : Int) + C + 1) = ((A + C + 1 : Nat) : Int) from by omega]; exact e4 (by omega)
      rwa [e] at h0
    have i6 : A + C = 4096 → ∀ w, Gl256 w → GlFirst256 w → Calls Tryd.prog 12 #[.agg cs, .int .i64 ((A : Int) + C + 1)] w fun e w' => e = .returned (.tuple #[.agg ((List.replicate 32 (0 : BitVec 8)).map U8).toArray, .bool false]) ∧ Upd [] w w' := fun h w h1 h2 => by
      have h0 := HIT.out w ((A : Int) + C + 1) h1 h2
      have e : iterOf m ((A : Int) + C + 1) = (List.replicate 32 0, false) := by unfold iterOf; rw [if_pos (by omega)]
      rwa [e] at h0
    rw [← zrow_h32] at i6
    obtain ⟨cx, hcx⟩ : ∃ cs, (X.map U8).toArray = cs := ⟨_, rfl⟩
    obtain ⟨cz, hcz⟩ : ∃ cs, (Z.map U8).toArray = cs := ⟨_, rfl⟩
    obtain ⟨cy, hcy⟩ : ∃ cs, (Y.map U8).toArray = cs := ⟨_, rfl⟩
    simp only [hcx, hcz, hcy] at i1 i2 i3 i4 i5 hsX hoX haX hsZ hoZ haZ hsY hoY haY hq3 hq4
    have I1 := Lib.hid i1
    have I2 := Lib.hid i2
    have I3 := Lib.hid i3
    have I5 := Lib.hid i5
    have I4 := Lib.hid i4
    have I6 := Lib.hid i6
    clear i1 i2 i3 i5 e1 e2 e3 hx hz hw hcx hcz hcy i4 i6 e4
    go_enter Tryd.func4, Tryd.ntmps4
    go_upto_region 1 with (fail)
    generalize hw1 : World.alloc w _ = w1
    have hV1 : Upd [] w w1 := by rw [← hw1]; exact (Upd.refl _ w).alloc _
    have h1 : w1.heap[B]? = some (.cells cs 23 (0, 0)) := by rw [← hw1]; exact hget_new hB.symm
    clear hw1
    have hQB : Hid (∀ w', Upd [] w1 w' → ∃ t fr, w'.heap[B]? = some (.cells cs t fr)) := fun w' h => ⟨_, _, h.heap h1 (by simp)⟩
    have hQR : Hid (∀ w', Upd [] w1 w' → RdB w' (.slice (some ⟨B, 0, none⟩) 32 32) m) := fun w' h => HRD.out _ (h.heap h1 (by simp))
    have HG1 := Lib.hid (HG.out.upd hV1 (by simp))
    have HF1 := Lib.hid (HF.out.upd hV1 (by simp))
    refine wp_region_quiet_all (Upd [] w1) (by kernel_rfl) (by kernel_rfl) (Upd.refl _ _).drew ?_
    repeat (first
      | (refine wpQuiet_val rfl (quiet_load_row 23 _ rfl B rfl _ hQB.out Tryd.underlying23 rfl hs1) ?_)
      | (refine wpQuiet_step (fun K hK => ?_)
         go_simp
         first
           | (refine ⟨_, fun _ _ => rfl, hK _ ?_⟩; clear hK K)
           | (refine ⟨_, fun w2 hw2 => (H3.out w2 (HG1.out.upd hw2 (by simp)) (HF1.out.upd hw2 (by simp))).mono (fun e w' h => ⟨h.1, hw2.trans h.2⟩), hK _ ?_⟩; clear hK K)
           | (refine ⟨_, fun w2 hw2 => (H4.out w2 _ (hQR.out _ hw2) (HG1.out.upd hw2 (by simp)) (HF1.out.upd hw2 (by simp))).mono (fun e w' h => ⟨h.1, hw2.trans h.2⟩), hK _ ?_⟩; clear hK K)
           | (refine hK _ ?_; clear hK K)))
    refine wpQuiet_nil ?_
    intro w2 hU2
    have hV2 := hV1.trans hU2
    have h2 := hU2.heap h1 (by simp)
    clear hV1 hU2 h1 hQB hQR HG1 HF1
    go_upto_region 5 with (fail)
    have h2_v := h2
    clear h2
    go_upto_region 6 with (first
      | (refine wpList_load_row_g rfl 23 _ rfl B rfl 23 _ (0, 0) _ h2_v Tryd.underlying23 rfl hs1 ?_)
      | (go_at_call 12; refine (I1.out _ (HG.out.upd hV2 (by simp)) (HF.out.upd hV2 (by simp))).mono ?_; rintro e w3 ⟨rfl, hU3⟩)
      | (refine wpList_store_row rfl 23 _ _ rfl _ cx rfl rfl 23 _ (hget_new rfl) hsX hoX haX ?_))
    go_simp
    obtain ⟨T3, hT3⟩ : ∃ T, w3.heap.size = T := ⟨_, rfl⟩
    rw [hT3]
    generalize hw4 : World.setRow (World.alloc w3 _) _ _ = w4
    obtain ⟨h4_x, hU4, hS4⟩ := put_row hT3 hw4
    have h4_v := hU4.heap (hU3.heap h2_v (by simp)) (by simp)
    have hV4 := (hV2.trans hU3).trans hU4
    clear hU4 hw4 hU3 hV2 hS4 hT3 h2_v
    go_upto_region 7 with (first
      | (refine wpList_load_row_g rfl 23 _ rfl T3 rfl 23 _ (0, 0) _ h4_x Tryd.underlying23 rfl hsX ?_)
      | (go_at_call 12; refine (I2.out _ (HG.out.upd hV4 (by simp)) (HF.out.upd hV4 (by simp))).mono ?_; rintro e w5 ⟨rfl, hU5⟩)
      | (refine wpList_store_row rfl 23 _ _ rfl _ cz rfl rfl 23 _ (hget_new rfl) hsZ hoZ haZ ?_))
    go_simp
    obtain ⟨T5, hT5⟩ : ∃ T, w5.heap.size = T := ⟨_, rfl⟩
    rw [hT5]
    generalize hw6 : World.setRow (World.alloc w5 _) _ _ = w6
    obtain ⟨h6_y, hU6, hS6⟩ := put_row hT5 hw6
    have h6_v := hU6.heap (hU5.heap h4_v (by simp)) (by simp)
    have h6_x := hU6.heap (hU5.heap h4_x (by simp)) (by simp)
    have hV6 := (hV4.trans hU5).trans hU6
    clear hU6 hw6 hU5 hV4 hS6 hT5 h4_v h4_x
    go_upto_region 8 with (first
      | (refine wpList_load_row_g rfl 23 _ rfl B rfl 23 _ (0, 0) _ h6_v Tryd.underlying23 rfl hs1 ?_)
      | (go_at_call 12; refine (I3.out _ (HG.out.upd hV6 (by simp)) (HF.out.upd hV6 (by simp))).mono ?_; rintro e w7 ⟨rfl, hU7⟩)
      | (refine wpList_store_row rfl 23 _ _ rfl _ cz rfl rfl 23 _ (hget_new rfl) hsZ hoZ haZ ?_))
    go_simp
    obtain ⟨T7, hT7⟩ : ∃ T, w7.heap.size = T := ⟨_, rfl⟩
    rw [hT7]
    generalize hw8 : World.setRow (World.alloc w7 _) _ _ = w8
    obtain ⟨h8_z, hU8, hS8⟩ := put_row hT7 hw8
    have h8_v := hU8.heap (hU7.heap h6_v (by simp)) (by simp)
    have h8_x := hU8.heap (hU7.heap h6_x (by simp)) (by simp)
    have h8_y := hU8.heap (hU7.heap h6_y (by simp)) (by simp)
    have hV8 := (hV6.trans hU7).trans hU8
    clear hU8 hw8 hU7 hV6 hS8 hT7 h6_v h6_x h6_y
    by_cases hmax : A + C = 4096
    · have I7 := Lib.hid (I6.out hmax)
      have hmi : ((A : Int) + (C : Int) = 4096) := by omega
      go_upto_region 11 with (first
        | (refine wpList_load_row_g rfl 23 _ rfl T5 rfl 23 _ (0, 0) _ h8_y Tryd.underlying23 rfl hsZ ?_)
        | (refine wpList_load_row_g rfl 23 _ rfl T7 rfl 23 _ (0, 0) _ h8_z Tryd.underlying23 rfl hsZ ?_))
      clear hmi
      go_wp2_with (first
        | (refine wpList_load_row_g rfl 23 _ rfl B rfl 23 _ (0, 0) _ h8_v Tryd.underlying23 rfl hs1 ?_)
        | (go_at_call 12; refine (I7.out _ (HG.out.upd hV8 (by simp)) (HF.out.upd hV8 (by simp))).mono ?_; rintro e w9 ⟨rfl, hU9⟩)
        | (refine wpList_store_row rfl 23 _ _ rfl w9.heap.size (zrow8 32) rfl rfl 23 _ (hget_new rfl) size_zrow32 rfl one_zrow32 ?_))
      go_ret
      exact ⟨rfl, ((hV8.trans hU9).alloc _).setRow _ _ (by have := hU9.size; have := hV8.size; omega)⟩
    · have I7 := Lib.hid (I4.out hmax)
      have hmi : ¬ ((A : Int) + (C : Int) = 4096) := by omega
      go_upto_region 13 with (first
        | (refine wpList_load_row_g rfl 23 _ rfl T5 rfl 23 _ (0, 0) _ h8_y Tryd.underlying23 rfl hsZ ?_)
        | (refine wpList_load_row_g rfl 23 _ rfl T7 rfl 23 _ (0, 0) _ h8_z Tryd.underlying23 rfl hsZ ?_))
      go_upto_region 14 with (first
        | (refine wpList_load_row_g rfl 23 _ rfl B rfl 23 _ (0, 0) _ h8_v Tryd.underlying23 rfl hs1 ?_)
        | (go_at_call 12; refine (I7.out _ (HG.out.upd hV8 (by simp)) (HF.out.upd hV8 (by simp))).mono ?_; rintro e w9 ⟨rfl, hU9⟩)
        | (refine wpList_store_row rfl 23 _ _ rfl w9.heap.size cy rfl rfl 23 _ (hget_new rfl) hsY hoY haY ?_))
      go_simp
      obtain ⟨T9, hT9⟩ : ∃ T, w9.heap.size = T := ⟨_, rfl⟩
      rw [hT9]
      generalize hw10 : World.setRow (World.alloc w9 _) _ _ = w10
      obtain ⟨h10_w, hU10, hS10⟩ := put_row hT9 hw10
      have h10_z := hU10.heap (hU9.heap h8_z (by simp)) (by simp)
      have hV10 := (hV8.trans hU9).trans hU10
      have hQW : Hid (∀ w', Upd [] w10 w' → ∃ t fr, w'.heap[T9]? = some (.cells cy t fr)) := fun w' h => ⟨_, _, h.heap h10_w (by simp)⟩
      have hQZ : Hid (∀ w', Upd [] w10 w' → ∃ t fr, w'.heap[T7]? = some (.cells cz t fr)) := fun w' h => ⟨_, _, h.heap h10_z (by simp)⟩
      have HG5 := Lib.hid (HG.out.upd hV10 (by simp))
      have HF5 := Lib.hid (HF.out.upd hV10 (by simp))
      clear hU10 hw10 hU9 hV8 hS10 hT9 h8_v h8_x h8_y h8_z h10_w h10_z
      refine wp_region_quiet_all (Upd [] w10) (by kernel_rfl) (by kernel_rfl) (Upd.refl _ _).drew ?_
      repeat (first
        | (refine wpQuiet_val rfl (quiet_load_row 23 _ rfl T9 rfl _ hQW.out Tryd.underlying23 rfl hsY) ?_)
        | (refine wpQuiet_val rfl (quiet_load_row 23 _ rfl T7 rfl _ hQZ.out Tryd.underlying23 rfl hsZ) ?_)
        | (refine wpQuiet_step (fun K hK => ?_)
           go_simp
           first
             | (refine ⟨_, fun _ _ => rfl, hK _ ?_⟩; clear hK K)
             | (refine ⟨_, fun w2 hw2 => (I5.out w2 (HG5.out.upd hw2 (by simp)) (HF5.out.upd hw2 (by simp))).mono (fun e w' h => ⟨h.1, hw2.trans h.2⟩), hK _ ?_⟩; clear hK K)
             | (refine hK _ ?_; clear hK K)))
      refine wpQuiet_nil ?_
      intro w11 hU11
      go_wp2
      go_ret
      exact ⟨rfl, hV10.trans hU11⟩
end Go.Proofs.YtldhjpliknfhiaaDoor
