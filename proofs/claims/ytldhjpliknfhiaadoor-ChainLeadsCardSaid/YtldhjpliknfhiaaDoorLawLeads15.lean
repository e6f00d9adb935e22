/-
  The law ChainLeads.
-/
import Derived.Test.YtldhjpliknfhiaaDoorLawShortcut15
namespace Go.Proofs.YtldhjpliknfhiaaDoor
open Go Go.RowKit Go.Proofs
theorem valueOf_in {n i : Int} (h : walkB n i = true) (m : List (BitVec 8)) : valueOf m n i = (steps m (n - i).toNat, true) := by
  obtain ⟨h0, h1, h2, h3, h4⟩ := walkB_spec h
  unfold valueOf; rw [if_neg (by simp only [h0, not_or]; refine ⟨by simp, by omega, by omega⟩), iterOf_nat m _ (by omega) (by omega)]
theorem walkB_zero {n i : Int} (h : walkB n i = true) : walkB n 0 = true := by
  obtain ⟨h0, h1, h2, h3, h4⟩ := walkB_spec h
  simp [walkB, h0]; omega
theorem walkB_next {n i : Int} (h : walkB n i = true) (hn : i ≠ n) : walkB n (i + 1) = true := by
  obtain ⟨h0, h1, h2, h3, h4⟩ := walkB_spec h
  simp [walkB, h0]; omega
set_option maxRecDepth 100000 in
set_option maxHeartbeats 6400000 in
theorem law_leads15 (w : World) (seed : List (BitVec 8)) (n early late : Int) (hs : seed.length = 32) (hg : Gl256 w) (hf : GlFirst256 w) :
    Calls Tryd.prog 8 #[.agg (seed.map U8).toArray, .int .i64 n, .int .i64 early, .int .i64 late] w fun x w' => x = .returned (.bool true) ∧ Upd [] w w' := by
  have h3 := fun w h1 h2 => step_ w seed hs h1 h2
  have h4 := fun w v h1 h3 h4 => sum256 w v seed h1 (by omega) h3 h4
  have hW1 := fun w => walkable_ w n early
  have hW2 := fun w => walkable_ w n late
  obtain ⟨x1, hx1⟩ : ∃ x, walkB n early = x := ⟨_, rfl⟩
  obtain ⟨x2, hx2⟩ : ∃ x, walkB n late = x := ⟨_, rfl⟩
  rw [hx1] at hW1
  rw [hx2] at hW2
  obtain ⟨S, hS⟩ : ∃ S, sha256 seed = S := ⟨_, rfl⟩
  have hSl : S.length = 32 := by rw [← hS]; exact sha256_length seed
  rw [hS] at h3 h4
  have hrd := fun (w : World) (B : Nat) (h : w.heap[B]? = some (.cells (seed.map U8).toArray 23 (0, 0))) => rd_row h hs
  have hq2 := fun w => neq_h32 S S hSl hSl w
  have hgd := guard_h32
  simp only [bne_self_eq_false] at hq2
  obtain ⟨ct, hct⟩ : ∃ cs, (S.map U8).toArray = cs := ⟨_, rfl⟩
  obtain ⟨cs, hcs⟩ : ∃ cs, (seed.map U8).toArray = cs := ⟨_, rfl⟩
  have hss := size_of32 hs
  simp only [hcs, hct] at h3 h4 hq2 hrd hss ⊢
  have H3 := Lib.hid h3
  have H4 := Lib.hid h4
  have HW1 := Lib.hid hW1
  have HW2 := Lib.hid hW2
  have HRD := Lib.hid hrd
  have HG := Lib.hid hg
  have HF := Lib.hid hf
  have HX1 := Lib.hid hx1
  have HX2 := Lib.hid hx2
  have HCS := Lib.hid hcs
  have HS := Lib.hid hs
  clear h3 h4 hW1 hW2 hrd hg hf hx1 hx2 hcs hct hS hs
  cases x1 with
  | false =>
    go_enter Tryd.func8, Tryd.ntmps8
    go_wp2_with (first
          | (with_reducible refine arm_load (by with_unfolding_all exact rfl) (by assumption) Tryd.underlying23 (by with_unfolding_all exact rfl) (by assumption) ?_)
          | (with_reducible refine arm_load_g (by with_unfolding_all exact rfl) (by with_unfolding_all exact rfl) (by assumption) Tryd.underlying23 (by with_unfolding_all exact rfl) (by assumption) ?_)
          | (with_reducible refine arm_box (by with_unfolding_all exact rfl) ?_))
    intro b1 w1 hb1 h1_s hU1 hz1
    clear hz1 hb1
    change w1.heap[b1]? = some (.cells cs 23 (0, 0)) at h1_s
    have hV1 : Upd [] w w1 := hU1
    clear hU1
    go_upto_region 1 with (first
          | (with_reducible refine arm_load (by with_unfolding_all exact rfl) (by assumption) Tryd.underlying23 (by with_unfolding_all exact rfl) (by assumption) ?_)
          | (with_reducible refine arm_load_g (by with_unfolding_all exact rfl) (by with_unfolding_all exact rfl) (by assumption) Tryd.underlying23 (by with_unfolding_all exact rfl) (by assumption) ?_))
    have hQ1_s : Hid (∀ w', Upd [] w1 w' → ∃ t fr, w'.heap[b1]? = some (.cells cs t fr)) := fun w' h => ⟨_, _, h.heap h1_s (by simp)⟩
    have hR1_s : Hid (∀ w', Upd [] w1 w' → RdB w' (.slice (some ⟨b1, 0, none⟩) 32 32) seed) := fun w' h => HRD.out _ _ (h.heap h1_s (by simp))
    have HG1 := Lib.hid (HG.out.upd hV1 (by simp))
    have HF1 := Lib.hid (HF.out.upd hV1 (by simp))
    refine wp_region_quiet_all (Upd [] w1) (by kernel_rfl) (by kernel_rfl) (Upd.refl _ _).drew ?_
    repeat (first
      | (refine wpQuiet_val rfl (quiet_load_row 23 _ rfl (b1) rfl _ hQ1_s.out Tryd.underlying23 rfl hss) ?_)
      | (refine wpQuiet_step (fun K hK => ?_)
         go_simp
         first
           | (refine ⟨_, fun _ _ => rfl, hK _ ?_⟩; clear hK K)
           | ((with_reducible refine ⟨_, fun w2 hw2 => (H3.out w2 (HG1.out.upd hw2 (by simp)) (HF1.out.upd hw2 (by simp))).mono (fun e w' h => ⟨h.1, hw2.trans h.2⟩), hK _ ?_⟩); clear hK K)
           | ((with_reducible refine ⟨_, fun w2 hw2 => (H4.out w2 _ (hR1_s.out _ hw2) (HG1.out.upd hw2 (by simp)) (HF1.out.upd hw2 (by simp))).mono (fun e w' h => ⟨h.1, hw2.trans h.2⟩), hK _ ?_⟩); clear hK K)
           | (refine hK _ ?_; clear hK K)))
    refine wpQuiet_nil ?_
    intro w2 hU2
    clear HG1 HF1 hQ1_s hR1_s
    have h2_s := hU2.heap h1_s (by simp)
    have hV2 := hV1.trans hU2
    clear hU2 hV1 h1_s
    go_wp2_with (first
          | (with_reducible refine arm_load (by with_unfolding_all exact rfl) (by assumption) Tryd.underlying23 (by with_unfolding_all exact rfl) (by assumption) ?_)
          | (with_reducible refine arm_load_g (by with_unfolding_all exact rfl) (by with_unfolding_all exact rfl) (by assumption) Tryd.underlying23 (by with_unfolding_all exact rfl) (by assumption) ?_))
    with_reducible refine (HW1.out _).mono ?_
    rintro e w3 ⟨rfl, rfl⟩
    go_wp2
    go_ret
    exact ⟨rfl, hV2⟩
  | true =>
  cases x2 with
  | false =>
    go_enter Tryd.func8, Tryd.ntmps8
    go_wp2_with (first
          | (with_reducible refine arm_load (by with_unfolding_all exact rfl) (by assumption) Tryd.underlying23 (by with_unfolding_all exact rfl) (by assumption) ?_)
          | (with_reducible refine arm_load_g (by with_unfolding_all exact rfl) (by with_unfolding_all exact rfl) (by assumption) Tryd.underlying23 (by with_unfolding_all exact rfl) (by assumption) ?_)
          | (with_reducible refine arm_box (by with_unfolding_all exact rfl) ?_))
    intro b1 w1 hb1 h1_s hU1 hz1
    clear hz1 hb1
    change w1.heap[b1]? = some (.cells cs 23 (0, 0)) at h1_s
    have hV1 : Upd [] w w1 := hU1
    clear hU1
    go_upto_region 1 with (first
          | (with_reducible refine arm_load (by with_unfolding_all exact rfl) (by assumption) Tryd.underlying23 (by with_unfolding_all exact rfl) (by assumption) ?_)
          | (with_reducible refine arm_load_g (by with_unfolding_all exact rfl) (by with_unfolding_all exact rfl) (by assumption) Tryd.underlying23 (by with_unfolding_all exact rfl) (by assumption) ?_))
    have hQ1_s : Hid (∀ w', Upd [] w1 w' → ∃ t fr, w'.heap[b1]? = some (.cells cs t fr)) := fun w' h => ⟨_, _, h.heap h1_s (by simp)⟩
    have hR1_s : Hid (∀ w', Upd [] w1 w' → RdB w' (.slice (some ⟨b1, 0, none⟩) 32 32) seed) := fun w' h => HRD.out _ _ (h.heap h1_s (by simp))
    have HG1 := Lib.hid (HG.out.upd hV1 (by simp))
    have HF1 := Lib.hid (HF.out.upd hV1 (by simp))
    refine wp_region_quiet_all (Upd [] w1) (by kernel_rfl) (by kernel_rfl) (Upd.refl _ _).drew ?_
    repeat (first
      | (refine wpQuiet_val rfl (quiet_load_row 23 _ rfl (b1) rfl _ hQ1_s.out Tryd.underlying23 rfl hss) ?_)
      | (refine wpQuiet_step (fun K hK => ?_)
         go_simp
         first
           | (refine ⟨_, fun _ _ => rfl, hK _ ?_⟩; clear hK K)
           | ((with_reducible refine ⟨_, fun w2 hw2 => (H3.out w2 (HG1.out.upd hw2 (by simp)) (HF1.out.upd hw2 (by simp))).mono (fun e w' h => ⟨h.1, hw2.trans h.2⟩), hK _ ?_⟩); clear hK K)
           | ((with_reducible refine ⟨_, fun w2 hw2 => (H4.out w2 _ (hR1_s.out _ hw2) (HG1.out.upd hw2 (by simp)) (HF1.out.upd hw2 (by simp))).mono (fun e w' h => ⟨h.1, hw2.trans h.2⟩), hK _ ?_⟩); clear hK K)
           | (refine hK _ ?_; clear hK K)))
    refine wpQuiet_nil ?_
    intro w2 hU2
    clear HG1 HF1 hQ1_s hR1_s
    have h2_s := hU2.heap h1_s (by simp)
    have hV2 := hV1.trans hU2
    clear hU2 hV1 h1_s
    go_wp2_with (first
          | (with_reducible refine arm_load (by with_unfolding_all exact rfl) (by assumption) Tryd.underlying23 (by with_unfolding_all exact rfl) (by assumption) ?_)
          | (with_reducible refine arm_load_g (by with_unfolding_all exact rfl) (by with_unfolding_all exact rfl) (by assumption) Tryd.underlying23 (by with_unfolding_all exact rfl) (by assumption) ?_))
    with_reducible refine (HW1.out _).mono ?_
    rintro e w3 ⟨rfl, rfl⟩
    go_wp2_with (first
          | (with_reducible refine arm_load (by with_unfolding_all exact rfl) (by assumption) Tryd.underlying23 (by with_unfolding_all exact rfl) (by assumption) ?_)
          | (with_reducible refine arm_load_g (by with_unfolding_all exact rfl) (by with_unfolding_all exact rfl) (by assumption) Tryd.underlying23 (by with_unfolding_all exact rfl) (by assumption) ?_))
    with_reducible refine (HW2.out _).mono ?_
    rintro e w3 ⟨rfl, rfl⟩
    go_wp2
    go_ret
    exact ⟨rfl, hV2⟩
  | true =>
  by_cases hlt : late < early
  · go_enter Tryd.func8, Tryd.ntmps8
    go_wp2_with (first
          | (with_reducible refine arm_load (by with_unfolding_all exact rfl) (by assumption) Tryd.underlying23 (by with_unfolding_all exact rfl) (by assumption) ?_)
          | (with_reducible refine arm_load_g (by with_unfolding_all exact rfl) (by with_unfolding_all exact rfl) (by assumption) Tryd.underlying23 (by with_unfolding_all exact rfl) (by assumption) ?_)
          | (with_reducible refine arm_box (by with_unfolding_all exact rfl) ?_))
    intro b1 w1 hb1 h1_s hU1 hz1
    clear hz1 hb1
    change w1.heap[b1]? = some (.cells cs 23 (0, 0)) at h1_s
    have hV1 : Upd [] w w1 := hU1
    clear hU1
    go_upto_region 1 with (first
          | (with_reducible refine arm_load (by with_unfolding_all exact rfl) (by assumption) Tryd.underlying23 (by with_unfolding_all exact rfl) (by assumption) ?_)
          | (with_reducible refine arm_load_g (by with_unfolding_all exact rfl) (by with_unfolding_all exact rfl) (by assumption) Tryd.underlying23 (by with_unfolding_all exact rfl) (by assumption) ?_))
    have hQ1_s : Hid (∀ w', Upd [] w1 w' → ∃ t fr, w'.heap[b1]? = some (.cells cs t fr)) := fun w' h => ⟨_, _, h.heap h1_s (by simp)⟩
    have hR1_s : Hid (∀ w', Upd [] w1 w' → RdB w' (.slice (some ⟨b1, 0, none⟩) 32 32) seed) := fun w' h => HRD.out _ _ (h.heap h1_s (by simp))
    have HG1 := Lib.hid (HG.out.upd hV1 (by simp))
    have HF1 := Lib.hid (HF.out.upd hV1 (by simp))
    refine wp_region_quiet_all (Upd [] w1) (by kernel_rfl) (by kernel_rfl) (Upd.refl _ _).drew ?_
    repeat (first
      | (refine wpQuiet_val rfl (quiet_load_row 23 _ rfl (b1) rfl _ hQ1_s.out Tryd.underlying23 rfl hss) ?_)
      | (refine wpQuiet_step (fun K hK => ?_)
         go_simp
         first
           | (refine ⟨_, fun _ _ => rfl, hK _ ?_⟩; clear hK K)
           | ((with_reducible refine ⟨_, fun w2 hw2 => (H3.out w2 (HG1.out.upd hw2 (by simp)) (HF1.out.upd hw2 (by simp))).mono (fun e w' h => ⟨h.1, hw2.trans h.2⟩), hK _ ?_⟩); clear hK K)
           | ((with_reducible refine ⟨_, fun w2 hw2 => (H4.out w2 _ (hR1_s.out _ hw2) (HG1.out.upd hw2 (by simp)) (HF1.out.upd hw2 (by simp))).mono (fun e w' h => ⟨h.1, hw2.trans h.2⟩), hK _ ?_⟩); clear hK K)
           | (refine hK _ ?_; clear hK K)))
    refine wpQuiet_nil ?_
    intro w2 hU2
    clear HG1 HF1 hQ1_s hR1_s
    have h2_s := hU2.heap h1_s (by simp)
    have hV2 := hV1.trans hU2
    clear hU2 hV1 h1_s
    go_wp2_with (first
          | (with_reducible refine arm_load (by with_unfolding_all exact rfl) (by assumption) Tryd.underlying23 (by with_unfolding_all exact rfl) (by assumption) ?_)
          | (with_reducible refine arm_load_g (by with_unfolding_all exact rfl) (by with_unfolding_all exact rfl) (by assumption) Tryd.underlying23 (by with_unfolding_all exact rfl) (by assumption) ?_))
    with_reducible refine (HW1.out _).mono ?_
    rintro e w3 ⟨rfl, rfl⟩
    go_wp2_with (first
          | (with_reducible refine arm_load (by with_unfolding_all exact rfl) (by assumption) Tryd.underlying23 (by with_unfolding_all exact rfl) (by assumption) ?_)
          | (with_reducible refine arm_load_g (by with_unfolding_all exact rfl) (by with_unfolding_all exact rfl) (by assumption) Tryd.underlying23 (by with_unfolding_all exact rfl) (by assumption) ?_))
    with_reducible refine (HW2.out _).mono ?_
    rintro e w3 ⟨rfl, rfl⟩
    go_wp2
    go_ret
    exact ⟨rfl, hV2⟩
  · have hx1 := HX1.out
    have hx2 := HX2.out
    have hs := HS.out
    obtain ⟨_, b1, b2, b3, b4⟩ := walkB_spec hx1
    obtain ⟨_, _, _, b5, b6⟩ := walkB_spec hx2
    have hlt' : ¬ (early > late) := by omega
    have b7 : early ≤ late := by omega
    have eA := valueOf_in (walkB_zero hx1) seed
    have eL := valueOf_in hx1 seed
    have eH := valueOf_in hx2 seed
    rw [Int.sub_zero] at eA
    have hAl := steps_length seed hs n.toNat
    have hLl := steps_length seed hs (n - early).toNat
    have hHl := steps_length seed hs (n - late).toNat
    have kA := fun w h1 h2 => anchor_ w seed n hs h1 h2
    have kL := fun w h1 h2 => value_ w seed n early hs h1 h2
    have kH := fun w h1 h2 => value_ w seed n late hs h1 h2
    have kB := fun w h1 h2 => value_ w seed n (late + 1) hs h1 h2
    rw [eA] at kA
    rw [eL] at kL
    rw [eH] at kH
    have k1 := fun w h1 h2 => check_ w (steps seed n.toNat) (steps seed (n - late).toNat) n late hAl hHl h1 h2
    have k2 := fun w h1 h2 => check_ w (steps seed n.toNat) (steps seed (n - early).toNat) n early hAl hLl h1 h2
    have k3 := fun w h1 h2 => link_ w (steps seed (n - early).toNat) (steps seed (n - late).toNat) early late hLl hHl h1 h2
    rw [checkOf_in hx2, steps_add, show (n - late).toNat + late.toNat = n.toNat by omega] at k1
    rw [checkOf_in hx1, steps_add, show (n - early).toNat + early.toNat = n.toNat by omega] at k2
    rw [linkOf_in hx1 hx2 b7, steps_add, show (n - late).toNat + (late - early).toNat = (n - early).toNat by omega] at k3
    simp only [beq_self_eq_true] at k1 k2 k3
    have hlast : late = n → steps seed (n - late).toNat = seed := fun h => by rw [h, Int.sub_self]; rfl
    have hnext : late ≠ n → valueOf seed n (late + 1) = (steps seed (n - (late + 1)).toNat, true) ∧ sha256 (steps seed (n - (late + 1)).toNat) = steps seed (n - late).toNat := fun h => by
      refine ⟨valueOf_in (walkB_next hx2 h) seed, ?_⟩
      rw [show (n - late).toNat = (n - (late + 1)).toNat + 1 by omega]; rfl
    have hBl := steps_length seed hs (n - (late + 1)).toNat
    have k4 := fun w h1 h2 => step_ w (steps seed (n - (late + 1)).toNat) hBl h1 h2
    obtain ⟨MA, hMA⟩ : ∃ M, steps seed n.toNat = M := ⟨_, rfl⟩
    obtain ⟨ML, hML⟩ : ∃ M, steps seed (n - early).toNat = M := ⟨_, rfl⟩
    obtain ⟨MH, hMH⟩ : ∃ M, steps seed (n - late).toNat = M := ⟨_, rfl⟩
    obtain ⟨MB, hMB⟩ : ∃ M, steps seed (n - (late + 1)).toNat = M := ⟨_, rfl⟩
    simp only [hMA, hML, hMH, hMB] at kA kL kH k1 k2 k3 k4 hlast hnext hAl hLl hHl hBl
    have hsA := size_of32 hAl
    have hoA := same_size32 hAl
    have haA := one_of32 MA
    have hsL := size_of32 hLl
    have hoL := same_size32 hLl
    have haL := one_of32 ML
    have hsH := size_of32 hHl
    have hoH := same_size32 hHl
    have haH := one_of32 MH
    have hsB := size_of32 hBl
    have hoB := same_size32 hBl
    have haB := one_of32 MB
    have hq1 := fun w => eql_h32 MH seed hHl hs w
    have hq3 := fun w => eql_h32 MH MH hHl hHl w
    simp only [beq_self_eq_true] at hq3
    have hcs := HCS.out
    obtain ⟨cA, hcA⟩ : ∃ cs, (MA.map U8).toArray = cs := ⟨_, rfl⟩
    obtain ⟨cL, hcL⟩ : ∃ cs, (ML.map U8).toArray = cs := ⟨_, rfl⟩
    obtain ⟨cH, hcH⟩ : ∃ cs, (MH.map U8).toArray = cs := ⟨_, rfl⟩
    obtain ⟨cB, hcB⟩ : ∃ cs, (MB.map U8).toArray = cs := ⟨_, rfl⟩
    simp only [hcA, hcL, hcH, hcB, hcs] at kA kL kH kB k1 k2 k3 hsA hoA haA hsL hoL haL hsH hoH haH hsB hoB haB hq1 hq3
    have KA := Lib.hid kA
    have KL := Lib.hid kL
    have KH := Lib.hid kH
    have KB := Lib.hid kB
    have K1 := Lib.hid k1
    have K2 := Lib.hid k2
    have K3 := Lib.hid k3
    have K4 := Lib.hid k4
    have HQ1 := Lib.hid hq1
    have HQ3 := Lib.hid hq3
    have HLAST := Lib.hid hlast
    have HNEXT := Lib.hid hnext
    have HMB := Lib.hid hcB
    have HMH := Lib.hid hcH
    clear kA kL kH kB k1 k2 k3 k4 hq1 hq3 hlast hnext eA eL eH hMA hML hMH hMB hcA hcL hcH hcB hcs hx1 hx2 hs hAl hLl hHl hBl hlt HX1 HX2 HCS HS
    by_cases hlate : late = n
    · have e := HLAST.out hlate
      have hq1 := HQ1.out
      simp only [e, beq_self_eq_true] at hq1
      have HLT := Lib.hid hlate
      clear e hlate HLAST HNEXT HQ1 HQ3 HMB HMH
      go_enter Tryd.func8, Tryd.ntmps8
      go_wp2_with (first
              | (with_reducible refine arm_load (by with_unfolding_all exact rfl) (by assumption) Tryd.underlying23 (by with_unfolding_all exact rfl) (by assumption) ?_)
              | (with_reducible refine arm_load_g (by with_unfolding_all exact rfl) (by with_unfolding_all exact rfl) (by assumption) Tryd.underlying23 (by with_unfolding_all exact rfl) (by assumption) ?_)
              | (with_reducible refine arm_box (by with_unfolding_all exact rfl) ?_))
      intro b1 w1 hb1 h1_s hU1 hz1
      clear hz1 hb1
      change w1.heap[b1]? = some (.cells cs 23 (0, 0)) at h1_s
      have hV1 : Upd [] w w1 := hU1
      clear hU1
      go_upto_region 1 with (first
              | (with_reducible refine arm_load (by with_unfolding_all exact rfl) (by assumption) Tryd.underlying23 (by with_unfolding_all exact rfl) (by assumption) ?_)
              | (with_reducible refine arm_load_g (by with_unfolding_all exact rfl) (by with_unfolding_all exact rfl) (by assumption) Tryd.underlying23 (by with_unfolding_all exact rfl) (by assumption) ?_))
      have hQ1_s : Hid (∀ w', Upd [] w1 w' → ∃ t fr, w'.heap[b1]? = some (.cells cs t fr)) := fun w' h => ⟨_, _, h.heap h1_s (by simp)⟩
      have hR1_s : Hid (∀ w', Upd [] w1 w' → RdB w' (.slice (some ⟨b1, 0, none⟩) 32 32) seed) := fun w' h => HRD.out _ _ (h.heap h1_s (by simp))
      have HG1 := Lib.hid (HG.out.upd hV1 (by simp))
      have HF1 := Lib.hid (HF.out.upd hV1 (by simp))
      refine wp_region_quiet_all (Upd [] w1) (by kernel_rfl) (by kernel_rfl) (Upd.refl _ _).drew ?_
      repeat (first
        | (refine wpQuiet_val rfl (quiet_load_row 23 _ rfl (b1) rfl _ hQ1_s.out Tryd.underlying23 rfl hss) ?_)
        | (refine wpQuiet_step (fun K hK => ?_)
           go_simp
           first
             | (refine ⟨_, fun _ _ => rfl, hK _ ?_⟩; clear hK K)
             | ((with_reducible refine ⟨_, fun w2 hw2 => (H3.out w2 (HG1.out.upd hw2 (by simp)) (HF1.out.upd hw2 (by simp))).mono (fun e w' h => ⟨h.1, hw2.trans h.2⟩), hK _ ?_⟩); clear hK K)
             | ((with_reducible refine ⟨_, fun w2 hw2 => (H4.out w2 _ (hR1_s.out _ hw2) (HG1.out.upd hw2 (by simp)) (HF1.out.upd hw2 (by simp))).mono (fun e w' h => ⟨h.1, hw2.trans h.2⟩), hK _ ?_⟩); clear hK K)
             | (refine hK _ ?_; clear hK K)))
      refine wpQuiet_nil ?_
      intro w2 hU2
      clear HG1 HF1 hQ1_s hR1_s
      have h2_s := hU2.heap h1_s (by simp)
      have hV2 := hV1.trans hU2
      clear hU2 hV1 h1_s
      go_wp2_with (first
              | (with_reducible refine arm_load (by with_unfolding_all exact rfl) (by assumption) Tryd.underlying23 (by with_unfolding_all exact rfl) (by assumption) ?_)
              | (with_reducible refine arm_load_g (by with_unfolding_all exact rfl) (by with_unfolding_all exact rfl) (by assumption) Tryd.underlying23 (by with_unfolding_all exact rfl) (by assumption) ?_))
      with_reducible refine (HW1.out _).mono ?_
      rintro e w3 ⟨rfl, rfl⟩
      go_wp2_with (first
              | (with_reducible refine arm_load (by with_unfolding_all exact rfl) (by assumption) Tryd.underlying23 (by with_unfolding_all exact rfl) (by assumption) ?_)
              | (with_reducible refine arm_load_g (by with_unfolding_all exact rfl) (by with_unfolding_all exact rfl) (by assumption) Tryd.underlying23 (by with_unfolding_all exact rfl) (by assumption) ?_))
      with_reducible refine (HW2.out _).mono ?_
      rintro e w3 ⟨rfl, rfl⟩
      go_upto_region 5 with (first
              | (with_reducible refine arm_load (by with_unfolding_all exact rfl) (by assumption) Tryd.underlying23 (by with_unfolding_all exact rfl) (by assumption) ?_)
              | (with_reducible refine arm_load_g (by with_unfolding_all exact rfl) (by with_unfolding_all exact rfl) (by assumption) Tryd.underlying23 (by with_unfolding_all exact rfl) (by assumption) ?_))
      go_wp2_with (first
              | (with_reducible refine arm_load (by with_unfolding_all exact rfl) (by assumption) Tryd.underlying23 (by with_unfolding_all exact rfl) (by assumption) ?_)
              | (with_reducible refine arm_load_g (by with_unfolding_all exact rfl) (by with_unfolding_all exact rfl) (by assumption) Tryd.underlying23 (by with_unfolding_all exact rfl) (by assumption) ?_))
      with_reducible refine (KA.out _ (HG.out.upd hV2 (by simp)) (HF.out.upd hV2 (by simp))).mono ?_
      rintro e w3 ⟨rfl, hU3⟩
      have h3_s := hU3.heap h2_s (by simp)
      have hV3 := hV2.trans hU3
      clear hU3 hV2 h2_s
      go_wp2_with (first
              | (with_reducible refine arm_load (by with_unfolding_all exact rfl) (by assumption) Tryd.underlying23 (by with_unfolding_all exact rfl) (by assumption) ?_)
              | (with_reducible refine arm_load_g (by with_unfolding_all exact rfl) (by with_unfolding_all exact rfl) (by assumption) Tryd.underlying23 (by with_unfolding_all exact rfl) (by assumption) ?_)
              | (with_reducible refine arm_alloc (zero_hash _) ?_))
      intro b4 w4 hb4 hc4 hU4 hz4
      clear hz4
      change w4.heap[b4]? = some (.cells (zrow8 32) 23 (0, 0)) at hc4
      go_wp2_with (first
              | (with_reducible refine arm_load (by with_unfolding_all exact rfl) (by assumption) Tryd.underlying23 (by with_unfolding_all exact rfl) (by assumption) ?_)
              | (with_reducible refine arm_load_g (by with_unfolding_all exact rfl) (by with_unfolding_all exact rfl) (by assumption) Tryd.underlying23 (by with_unfolding_all exact rfl) (by assumption) ?_)
              | (with_reducible refine arm_store (by with_unfolding_all exact rfl) (by with_unfolding_all exact rfl) hc4 hsA hoA haA ?_))
      intro w5 h5_A hX5 hz5
      have hU5 := hU4.fresh hb4 hX5
      clear hU4 hc4 hX5 hz5 hb4
      have h5_s := hU5.heap h3_s (by simp)
      have hV5 := hV3.trans hU5
      clear hU5 hV3 h3_s
      go_wp2_with (first
              | (with_reducible refine arm_load (by with_unfolding_all exact rfl) (by assumption) Tryd.underlying23 (by with_unfolding_all exact rfl) (by assumption) ?_)
              | (with_reducible refine arm_load_g (by with_unfolding_all exact rfl) (by with_unfolding_all exact rfl) (by assumption) Tryd.underlying23 (by with_unfolding_all exact rfl) (by assumption) ?_))
      with_reducible refine (KL.out _ (HG.out.upd hV5 (by simp)) (HF.out.upd hV5 (by simp))).mono ?_
      rintro e w6 ⟨rfl, hU6⟩
      have h6_s := hU6.heap h5_s (by simp)
      have h6_A := hU6.heap h5_A (by simp)
      have hV6 := hV5.trans hU6
      clear hU6 hV5 h5_s h5_A
      go_wp2_with (first
              | (with_reducible refine arm_load (by with_unfolding_all exact rfl) (by assumption) Tryd.underlying23 (by with_unfolding_all exact rfl) (by assumption) ?_)
              | (with_reducible refine arm_load_g (by with_unfolding_all exact rfl) (by with_unfolding_all exact rfl) (by assumption) Tryd.underlying23 (by with_unfolding_all exact rfl) (by assumption) ?_)
              | (with_reducible refine arm_alloc (zero_hash _) ?_))
      intro b7 w7 hb7 hc7 hU7 hz7
      clear hz7
      change w7.heap[b7]? = some (.cells (zrow8 32) 23 (0, 0)) at hc7
      go_wp2_with (first
              | (with_reducible refine arm_load (by with_unfolding_all exact rfl) (by assumption) Tryd.underlying23 (by with_unfolding_all exact rfl) (by assumption) ?_)
              | (with_reducible refine arm_load_g (by with_unfolding_all exact rfl) (by with_unfolding_all exact rfl) (by assumption) Tryd.underlying23 (by with_unfolding_all exact rfl) (by assumption) ?_)
              | (with_reducible refine arm_store (by with_unfolding_all exact rfl) (by with_unfolding_all exact rfl) hc7 hsL hoL haL ?_))
      intro w8 h8_L hX8 hz8
      have hU8 := hU7.fresh hb7 hX8
      clear hU7 hc7 hX8 hz8 hb7
      have h8_s := hU8.heap h6_s (by simp)
      have h8_A := hU8.heap h6_A (by simp)
      have hV8 := hV6.trans hU8
      clear hU8 hV6 h6_s h6_A
      go_wp2_with (first
              | (with_reducible refine arm_load (by with_unfolding_all exact rfl) (by assumption) Tryd.underlying23 (by with_unfolding_all exact rfl) (by assumption) ?_)
              | (with_reducible refine arm_load_g (by with_unfolding_all exact rfl) (by with_unfolding_all exact rfl) (by assumption) Tryd.underlying23 (by with_unfolding_all exact rfl) (by assumption) ?_))
      with_reducible refine (KH.out _ (HG.out.upd hV8 (by simp)) (HF.out.upd hV8 (by simp))).mono ?_
      rintro e w9 ⟨rfl, hU9⟩
      have h9_s := hU9.heap h8_s (by simp)
      have h9_A := hU9.heap h8_A (by simp)
      have h9_L := hU9.heap h8_L (by simp)
      have hV9 := hV8.trans hU9
      clear hU9 hV8 h8_s h8_A h8_L
      go_wp2_with (first
              | (with_reducible refine arm_load (by with_unfolding_all exact rfl) (by assumption) Tryd.underlying23 (by with_unfolding_all exact rfl) (by assumption) ?_)
              | (with_reducible refine arm_load_g (by with_unfolding_all exact rfl) (by with_unfolding_all exact rfl) (by assumption) Tryd.underlying23 (by with_unfolding_all exact rfl) (by assumption) ?_)
              | (with_reducible refine arm_alloc (zero_hash _) ?_))
      intro b10 w10 hb10 hc10 hU10 hz10
      clear hz10
      change w10.heap[b10]? = some (.cells (zrow8 32) 23 (0, 0)) at hc10
      go_wp2_with (first
              | (with_reducible refine arm_load (by with_unfolding_all exact rfl) (by assumption) Tryd.underlying23 (by with_unfolding_all exact rfl) (by assumption) ?_)
              | (with_reducible refine arm_load_g (by with_unfolding_all exact rfl) (by with_unfolding_all exact rfl) (by assumption) Tryd.underlying23 (by with_unfolding_all exact rfl) (by assumption) ?_)
              | (with_reducible refine arm_store (by with_unfolding_all exact rfl) (by with_unfolding_all exact rfl) hc10 hsH hoH haH ?_))
      intro w11 h11_H hX11 hz11
      have hU11 := hU10.fresh hb10 hX11
      clear hU10 hc10 hX11 hz11 hb10
      have h11_s := hU11.heap h9_s (by simp)
      have h11_A := hU11.heap h9_A (by simp)
      have h11_L := hU11.heap h9_L (by simp)
      have hV11 := hV9.trans hU11
      clear hU11 hV9 h9_s h9_A h9_L
      go_wp2_with (first
              | (with_reducible refine arm_load (by with_unfolding_all exact rfl) (by assumption) Tryd.underlying23 (by with_unfolding_all exact rfl) (by assumption) ?_)
              | (with_reducible refine arm_load_g (by with_unfolding_all exact rfl) (by with_unfolding_all exact rfl) (by assumption) Tryd.underlying23 (by with_unfolding_all exact rfl) (by assumption) ?_))
      with_reducible refine (K1.out _ (HG.out.upd hV11 (by simp)) (HF.out.upd hV11 (by simp))).mono ?_
      rintro e w12 ⟨rfl, hU12⟩
      have h12_s := hU12.heap h11_s (by simp)
      have h12_A := hU12.heap h11_A (by simp)
      have h12_L := hU12.heap h11_L (by simp)
      have h12_H := hU12.heap h11_H (by simp)
      have hV12 := hV11.trans hU12
      clear hU12 hV11 h11_s h11_A h11_L h11_H
      go_wp2_with (first
              | (with_reducible refine arm_load (by with_unfolding_all exact rfl) (by assumption) Tryd.underlying23 (by with_unfolding_all exact rfl) (by assumption) ?_)
              | (with_reducible refine arm_load_g (by with_unfolding_all exact rfl) (by with_unfolding_all exact rfl) (by assumption) Tryd.underlying23 (by with_unfolding_all exact rfl) (by assumption) ?_))
      with_reducible refine (K2.out _ (HG.out.upd hV12 (by simp)) (HF.out.upd hV12 (by simp))).mono ?_
      rintro e w13 ⟨rfl, hU13⟩
      have h13_s := hU13.heap h12_s (by simp)
      have h13_A := hU13.heap h12_A (by simp)
      have h13_L := hU13.heap h12_L (by simp)
      have h13_H := hU13.heap h12_H (by simp)
      have hV13 := hV12.trans hU13
      clear hU13 hV12 h12_s h12_A h12_L h12_H
      go_wp2_with (first
              | (with_reducible refine arm_load (by with_unfolding_all exact rfl) (by assumption) Tryd.underlying23 (by with_unfolding_all exact rfl) (by assumption) ?_)
              | (with_reducible refine arm_load_g (by with_unfolding_all exact rfl) (by with_unfolding_all exact rfl) (by assumption) Tryd.underlying23 (by with_unfolding_all exact rfl) (by assumption) ?_))
      with_reducible refine (K3.out _ (HG.out.upd hV13 (by simp)) (HF.out.upd hV13 (by simp))).mono ?_
      rintro e w14 ⟨rfl, hU14⟩
      have h14_s := hU14.heap h13_s (by simp)
      have h14_A := hU14.heap h13_A (by simp)
      have h14_L := hU14.heap h13_L (by simp)
      have h14_H := hU14.heap h13_H (by simp)
      have hV14 := hV13.trans hU14
      clear hU14 hV13 h13_s h13_A h13_L h13_H
      go_upto_region 10 with (first
              | (with_reducible refine arm_load (by with_unfolding_all exact rfl) (by assumption) Tryd.underlying23 (by with_unfolding_all exact rfl) (by assumption) ?_)
              | (with_reducible refine arm_load_g (by with_unfolding_all exact rfl) (by with_unfolding_all exact rfl) (by assumption) Tryd.underlying23 (by with_unfolding_all exact rfl) (by assumption) ?_))
      have hlate := HLT.out
      go_upto_region 11 with (first
              | (with_reducible refine arm_load (by with_unfolding_all exact rfl) (by assumption) Tryd.underlying23 (by with_unfolding_all exact rfl) (by assumption) ?_)
              | (with_reducible refine arm_load_g (by with_unfolding_all exact rfl) (by with_unfolding_all exact rfl) (by assumption) Tryd.underlying23 (by with_unfolding_all exact rfl) (by assumption) ?_))
      clear hlate
      go_wp2_with (first
              | (with_reducible refine arm_load (by with_unfolding_all exact rfl) (by assumption) Tryd.underlying23 (by with_unfolding_all exact rfl) (by assumption) ?_)
              | (with_reducible refine arm_load_g (by with_unfolding_all exact rfl) (by with_unfolding_all exact rfl) (by assumption) Tryd.underlying23 (by with_unfolding_all exact rfl) (by assumption) ?_))
      go_wp2
      go_ret
      exact ⟨rfl, hV14⟩
    · obtain ⟨e1, e2⟩ := HNEXT.out hlate
      have kB := KB.out
      rw [e1] at kB
      have k4 := K4.out
      rw [e2] at k4
      simp only [HMB.out, HMH.out] at kB k4
      have KB' := Lib.hid kB
      have K4' := Lib.hid k4
      have hq3 := HQ3.out
      have hln : late + 1 ≤ n := by omega
      clear kB k4 e1 e2 KB K4 HLAST HNEXT HQ1 HQ3 HMB HMH
      go_enter Tryd.func8, Tryd.ntmps8
      go_wp2_with (first
              | (with_reducible refine arm_load (by with_unfolding_all exact rfl) (by assumption) Tryd.underlying23 (by with_unfolding_all exact rfl) (by assumption) ?_)
              | (with_reducible refine arm_load_g (by with_unfolding_all exact rfl) (by with_unfolding_all exact rfl) (by assumption) Tryd.underlying23 (by with_unfolding_all exact rfl) (by assumption) ?_)
              | (with_reducible refine arm_box (by with_unfolding_all exact rfl) ?_))
      intro b1 w1 hb1 h1_s hU1 hz1
      clear hz1 hb1
      change w1.heap[b1]? = some (.cells cs 23 (0, 0)) at h1_s
      have hV1 : Upd [] w w1 := hU1
      clear hU1
      go_upto_region 1 with (first
              | (with_reducible refine arm_load (by with_unfolding_all exact rfl) (by assumption) Tryd.underlying23 (by with_unfolding_all exact rfl) (by assumption) ?_)
              | (with_reducible refine arm_load_g (by with_unfolding_all exact rfl) (by with_unfolding_all exact rfl) (by assumption) Tryd.underlying23 (by with_unfolding_all exact rfl) (by assumption) ?_))
      have hQ1_s : Hid (∀ w', Upd [] w1 w' → ∃ t fr, w'.heap[b1]? = some (.cells cs t fr)) := fun w' h => ⟨_, _, h.heap h1_s (by simp)⟩
      have hR1_s : Hid (∀ w', Upd [] w1 w' → RdB w' (.slice (some ⟨b1, 0, none⟩) 32 32) seed) := fun w' h => HRD.out _ _ (h.heap h1_s (by simp))
      have HG1 := Lib.hid (HG.out.upd hV1 (by simp))
      have HF1 := Lib.hid (HF.out.upd hV1 (by simp))
      refine wp_region_quiet_all (Upd [] w1) (by kernel_rfl) (by kernel_rfl) (Upd.refl _ _).drew ?_
      repeat (first
        | (refine wpQuiet_val rfl (quiet_load_row 23 _ rfl (b1) rfl _ hQ1_s.out Tryd.underlying23 rfl hss) ?_)
        | (refine wpQuiet_step (fun K hK => ?_)
           go_simp
           first
             | (refine ⟨_, fun _ _ => rfl, hK _ ?_⟩; clear hK K)
             | ((with_reducible refine ⟨_, fun w2 hw2 => (H3.out w2 (HG1.out.upd hw2 (by simp)) (HF1.out.upd hw2 (by simp))).mono (fun e w' h => ⟨h.1, hw2.trans h.2⟩), hK _ ?_⟩); clear hK K)
             | ((with_reducible refine ⟨_, fun w2 hw2 => (H4.out w2 _ (hR1_s.out _ hw2) (HG1.out.upd hw2 (by simp)) (HF1.out.upd hw2 (by simp))).mono (fun e w' h => ⟨h.1, hw2.trans h.2⟩), hK _ ?_⟩); clear hK K)
             | (refine hK _ ?_; clear hK K)))
      refine wpQuiet_nil ?_
      intro w2 hU2
      clear HG1 HF1 hQ1_s hR1_s
      have h2_s := hU2.heap h1_s (by simp)
      have hV2 := hV1.trans hU2
      clear hU2 hV1 h1_s
      go_wp2_with (first
              | (with_reducible refine arm_load (by with_unfolding_all exact rfl) (by assumption) Tryd.underlying23 (by with_unfolding_all exact rfl) (by assumption) ?_)
              | (with_reducible refine arm_load_g (by with_unfolding_all exact rfl) (by with_unfolding_all exact rfl) (by assumption) Tryd.underlying23 (by with_unfolding_all exact rfl) (by assumption) ?_))
      with_reducible refine (HW1.out _).mono ?_
      rintro e w3 ⟨rfl, rfl⟩
      go_wp2_with (first
              | (with_reducible refine arm_load (by with_unfolding_all exact rfl) (by assumption) Tryd.underlying23 (by with_unfolding_all exact rfl) (by assumption) ?_)
              | (with_reducible refine arm_load_g (by with_unfolding_all exact rfl) (by with_unfolding_all exact rfl) (by assumption) Tryd.underlying23 (by with_unfolding_all exact rfl) (by assumption) ?_))
      with_reducible refine (HW2.out _).mono ?_
      rintro e w3 ⟨rfl, rfl⟩
      go_upto_region 5 with (first
              | (with_reducible refine arm_load (by with_unfolding_all exact rfl) (by assumption) Tryd.underlying23 (by with_unfolding_all exact rfl) (by assumption) ?_)
              | (with_reducible refine arm_load_g (by with_unfolding_all exact rfl) (by with_unfolding_all exact rfl) (by assumption) Tryd.underlying23 (by with_unfolding_all exact rfl) (by assumption) ?_))
      go_wp2_with (first
              | (with_reducible refine arm_load (by with_unfolding_all exact rfl) (by assumption) Tryd.underlying23 (by with_unfolding_all exact rfl) (by assumption) ?_)
              | (with_reducible refine arm_load_g (by with_unfolding_all exact rfl) (by with_unfolding_all exact rfl) (by assumption) Tryd.underlying23 (by with_unfolding_all exact rfl) (by assumption) ?_))
      with_reducible refine (KA.out _ (HG.out.upd hV2 (by simp)) (HF.out.upd hV2 (by simp))).mono ?_
      rintro e w3 ⟨rfl, hU3⟩
      have h3_s := hU3.heap h2_s (by simp)
      have hV3 := hV2.trans hU3
      clear hU3 hV2 h2_s
      go_wp2_with (first
              | (with_reducible refine arm_load (by with_unfolding_all exact rfl) (by assumption) Tryd.underlying23 (by with_unfolding_all exact rfl) (by assumption) ?_)
              | (with_reducible refine arm_load_g (by with_unfolding_all exact rfl) (by with_unfolding_all exact rfl) (by assumption) Tryd.underlying23 (by with_unfolding_all exact rfl) (by assumption) ?_)
              | (with_reducible refine arm_alloc (zero_hash _) ?_))
      intro b4 w4 hb4 hc4 hU4 hz4
      clear hz4
      change w4.heap[b4]? = some (.cells (zrow8 32) 23 (0, 0)) at hc4
      go_wp2_with (first
              | (with_reducible refine arm_load (by with_unfolding_all exact rfl) (by assumption) Tryd.underlying23 (by with_unfolding_all exact rfl) (by assumption) ?_)
              | (with_reducible refine arm_load_g (by with_unfolding_all exact rfl) (by with_unfolding_all exact rfl) (by assumption) Tryd.underlying23 (by with_unfolding_all exact rfl) (by assumption) ?_)
              | (with_reducible refine arm_store (by with_unfolding_all exact rfl) (by with_unfolding_all exact rfl) hc4 hsA hoA haA ?_))
      intro w5 h5_A hX5 hz5
      have hU5 := hU4.fresh hb4 hX5
      clear hU4 hc4 hX5 hz5 hb4
      have h5_s := hU5.heap h3_s (by simp)
      have hV5 := hV3.trans hU5
      clear hU5 hV3 h3_s
      go_wp2_with (first
              | (with_reducible refine arm_load (by with_unfolding_all exact rfl) (by assumption) Tryd.underlying23 (by with_unfolding_all exact rfl) (by assumption) ?_)
              | (with_reducible refine arm_load_g (by with_unfolding_all exact rfl) (by with_unfolding_all exact rfl) (by assumption) Tryd.underlying23 (by with_unfolding_all exact rfl) (by assumption) ?_))
      with_reducible refine (KL.out _ (HG.out.upd hV5 (by simp)) (HF.out.upd hV5 (by simp))).mono ?_
      rintro e w6 ⟨rfl, hU6⟩
      have h6_s := hU6.heap h5_s (by simp)
      have h6_A := hU6.heap h5_A (by simp)
      have hV6 := hV5.trans hU6
      clear hU6 hV5 h5_s h5_A
      go_wp2_with (first
              | (with_reducible refine arm_load (by with_unfolding_all exact rfl) (by assumption) Tryd.underlying23 (by with_unfolding_all exact rfl) (by assumption) ?_)
              | (with_reducible refine arm_load_g (by with_unfolding_all exact rfl) (by with_unfolding_all exact rfl) (by assumption) Tryd.underlying23 (by with_unfolding_all exact rfl) (by assumption) ?_)
              | (with_reducible refine arm_alloc (zero_hash _) ?_))
      intro b7 w7 hb7 hc7 hU7 hz7
      clear hz7
      change w7.heap[b7]? = some (.cells (zrow8 32) 23 (0, 0)) at hc7
      go_wp2_with (first
              | (with_reducible refine arm_load (by with_unfolding_all exact rfl) (by assumption) Tryd.underlying23 (by with_unfolding_all exact rfl) (by assumption) ?_)
              | (with_reducible refine arm_load_g (by with_unfolding_all exact rfl) (by with_unfolding_all exact rfl) (by assumption) Tryd.underlying23 (by with_unfolding_all exact rfl) (by assumption) ?_)
              | (with_reducible refine arm_store (by with_unfolding_all exact rfl) (by with_unfolding_all exact rfl) hc7 hsL hoL haL ?_))
      intro w8 h8_L hX8 hz8
      have hU8 := hU7.fresh hb7 hX8
      clear hU7 hc7 hX8 hz8 hb7
      have h8_s := hU8.heap h6_s (by simp)
      have h8_A := hU8.heap h6_A (by simp)
      have hV8 := hV6.trans hU8
      clear hU8 hV6 h6_s h6_A
      go_wp2_with (first
              | (with_reducible refine arm_load (by with_unfolding_all exact rfl) (by assumption) Tryd.underlying23 (by with_unfolding_all exact rfl) (by assumption) ?_)
              | (with_reducible refine arm_load_g (by with_unfolding_all exact rfl) (by with_unfolding_all exact rfl) (by assumption) Tryd.underlying23 (by with_unfolding_all exact rfl) (by assumption) ?_))
      with_reducible refine (KH.out _ (HG.out.upd hV8 (by simp)) (HF.out.upd hV8 (by simp))).mono ?_
      rintro e w9 ⟨rfl, hU9⟩
      have h9_s := hU9.heap h8_s (by simp)
      have h9_A := hU9.heap h8_A (by simp)
      have h9_L := hU9.heap h8_L (by simp)
      have hV9 := hV8.trans hU9
      clear hU9 hV8 h8_s h8_A h8_L
      go_wp2_with (first
              | (with_reducible refine arm_load (by with_unfolding_all exact rfl) (by assumption) Tryd.underlying23 (by with_unfolding_all exact rfl) (by assumption) ?_)
              | (with_reducible refine arm_load_g (by with_unfolding_all exact rfl) (by with_unfolding_all exact rfl) (by assumption) Tryd.underlying23 (by with_unfolding_all exact rfl) (by assumption) ?_)
              | (with_reducible refine arm_alloc (zero_hash _) ?_))
      intro b10 w10 hb10 hc10 hU10 hz10
      clear hz10
      change w10.heap[b10]? = some (.cells (zrow8 32) 23 (0, 0)) at hc10
      go_wp2_with (first
              | (with_reducible refine arm_load (by with_unfolding_all exact rfl) (by assumption) Tryd.underlying23 (by with_unfolding_all exact rfl) (by assumption) ?_)
              | (with_reducible refine arm_load_g (by with_unfolding_all exact rfl) (by with_unfolding_all exact rfl) (by assumption) Tryd.underlying23 (by with_unfolding_all exact rfl) (by assumption) ?_)
              | (with_reducible refine arm_store (by with_unfolding_all exact rfl) (by with_unfolding_all exact rfl) hc10 hsH hoH haH ?_))
      intro w11 h11_H hX11 hz11
      have hU11 := hU10.fresh hb10 hX11
      clear hU10 hc10 hX11 hz11 hb10
      have h11_s := hU11.heap h9_s (by simp)
      have h11_A := hU11.heap h9_A (by simp)
      have h11_L := hU11.heap h9_L (by simp)
      have hV11 := hV9.trans hU11
      clear hU11 hV9 h9_s h9_A h9_L
      go_wp2_with (first
              | (with_reducible refine arm_load (by with_unfolding_all exact rfl) (by assumption) Tryd.underlying23 (by with_unfolding_all exact rfl) (by assumption) ?_)
              | (with_reducible refine arm_load_g (by with_unfolding_all exact rfl) (by with_unfolding_all exact rfl) (by assumption) Tryd.underlying23 (by with_unfolding_all exact rfl) (by assumption) ?_))
      with_reducible refine (K1.out _ (HG.out.upd hV11 (by simp)) (HF.out.upd hV11 (by simp))).mono ?_
      rintro e w12 ⟨rfl, hU12⟩
      have h12_s := hU12.heap h11_s (by simp)
      have h12_A := hU12.heap h11_A (by simp)
      have h12_L := hU12.heap h11_L (by simp)
      have h12_H := hU12.heap h11_H (by simp)
      have hV12 := hV11.trans hU12
      clear hU12 hV11 h11_s h11_A h11_L h11_H
      go_wp2_with (first
              | (with_reducible refine arm_load (by with_unfolding_all exact rfl) (by assumption) Tryd.underlying23 (by with_unfolding_all exact rfl) (by assumption) ?_)
              | (with_reducible refine arm_load_g (by with_unfolding_all exact rfl) (by with_unfolding_all exact rfl) (by assumption) Tryd.underlying23 (by with_unfolding_all exact rfl) (by assumption) ?_))
      with_reducible refine (K2.out _ (HG.out.upd hV12 (by simp)) (HF.out.upd hV12 (by simp))).mono ?_
      rintro e w13 ⟨rfl, hU13⟩
      have h13_s := hU13.heap h12_s (by simp)
      have h13_A := hU13.heap h12_A (by simp)
      have h13_L := hU13.heap h12_L (by simp)
      have h13_H := hU13.heap h12_H (by simp)
      have hV13 := hV12.trans hU13
      clear hU13 hV12 h12_s h12_A h12_L h12_H
      go_wp2_with (first
              | (with_reducible refine arm_load (by with_unfolding_all exact rfl) (by assumption) Tryd.underlying23 (by with_unfolding_all exact rfl) (by assumption) ?_)
              | (with_reducible refine arm_load_g (by with_unfolding_all exact rfl) (by with_unfolding_all exact rfl) (by assumption) Tryd.underlying23 (by with_unfolding_all exact rfl) (by assumption) ?_))
      with_reducible refine (K3.out _ (HG.out.upd hV13 (by simp)) (HF.out.upd hV13 (by simp))).mono ?_
      rintro e w14 ⟨rfl, hU14⟩
      have h14_s := hU14.heap h13_s (by simp)
      have h14_A := hU14.heap h13_A (by simp)
      have h14_L := hU14.heap h13_L (by simp)
      have h14_H := hU14.heap h13_H (by simp)
      have hV14 := hV13.trans hU14
      clear hU14 hV13 h13_s h13_A h13_L h13_H
      go_upto_region 12 with (first
              | (with_reducible refine arm_load (by with_unfolding_all exact rfl) (by assumption) Tryd.underlying23 (by with_unfolding_all exact rfl) (by assumption) ?_)
              | (with_reducible refine arm_load_g (by with_unfolding_all exact rfl) (by with_unfolding_all exact rfl) (by assumption) Tryd.underlying23 (by with_unfolding_all exact rfl) (by assumption) ?_))
      go_wp2_with (first
              | (with_reducible refine arm_load (by with_unfolding_all exact rfl) (by assumption) Tryd.underlying23 (by with_unfolding_all exact rfl) (by assumption) ?_)
              | (with_reducible refine arm_load_g (by with_unfolding_all exact rfl) (by with_unfolding_all exact rfl) (by assumption) Tryd.underlying23 (by with_unfolding_all exact rfl) (by assumption) ?_))
      with_reducible refine (KB'.out _ (HG.out.upd hV14 (by simp)) (HF.out.upd hV14 (by simp))).mono ?_
      rintro e w15 ⟨rfl, hU15⟩
      have h15_s := hU15.heap h14_s (by simp)
      have h15_A := hU15.heap h14_A (by simp)
      have h15_L := hU15.heap h14_L (by simp)
      have h15_H := hU15.heap h14_H (by simp)
      have hV15 := hV14.trans hU15
      clear hU15 hV14 h14_s h14_A h14_L h14_H
      go_wp2_with (first
              | (with_reducible refine arm_load (by with_unfolding_all exact rfl) (by assumption) Tryd.underlying23 (by with_unfolding_all exact rfl) (by assumption) ?_)
              | (with_reducible refine arm_load_g (by with_unfolding_all exact rfl) (by with_unfolding_all exact rfl) (by assumption) Tryd.underlying23 (by with_unfolding_all exact rfl) (by assumption) ?_)
              | (with_reducible refine arm_alloc (zero_hash _) ?_))
      intro b16 w16 hb16 hc16 hU16 hz16
      clear hz16
      change w16.heap[b16]? = some (.cells (zrow8 32) 23 (0, 0)) at hc16
      go_wp2_with (first
              | (with_reducible refine arm_load (by with_unfolding_all exact rfl) (by assumption) Tryd.underlying23 (by with_unfolding_all exact rfl) (by assumption) ?_)
              | (with_reducible refine arm_load_g (by with_unfolding_all exact rfl) (by with_unfolding_all exact rfl) (by assumption) Tryd.underlying23 (by with_unfolding_all exact rfl) (by assumption) ?_)
              | (with_reducible refine arm_store (by with_unfolding_all exact rfl) (by with_unfolding_all exact rfl) hc16 hsB hoB haB ?_))
      intro w17 h17_B hX17 hz17
      have hU17 := hU16.fresh hb16 hX17
      clear hU16 hc16 hX17 hz17 hb16
      have h17_s := hU17.heap h15_s (by simp)
      have h17_A := hU17.heap h15_A (by simp)
      have h17_L := hU17.heap h15_L (by simp)
      have h17_H := hU17.heap h15_H (by simp)
      have hV17 := hV15.trans hU17
      clear hU17 hV15 h15_s h15_A h15_L h15_H
      go_upto_region 13 with (first
              | (with_reducible refine arm_load (by with_unfolding_all exact rfl) (by assumption) Tryd.underlying23 (by with_unfolding_all exact rfl) (by assumption) ?_)
              | (with_reducible refine arm_load_g (by with_unfolding_all exact rfl) (by with_unfolding_all exact rfl) (by assumption) Tryd.underlying23 (by with_unfolding_all exact rfl) (by assumption) ?_))
      have hQ17_B : Hid (∀ w', Upd [] w17 w' → ∃ t fr, w'.heap[b16]? = some (.cells cB t fr)) := fun w' h => ⟨_, _, h.heap h17_B (by simp)⟩
      have hQ17_H : Hid (∀ w', Upd [] w17 w' → ∃ t fr, w'.heap[b10]? = some (.cells cH t fr)) := fun w' h => ⟨_, _, h.heap h17_H (by simp)⟩
      have HG17 := Lib.hid (HG.out.upd hV17 (by simp))
      have HF17 := Lib.hid (HF.out.upd hV17 (by simp))
      refine wp_region_quiet_all (Upd [] w17) (by kernel_rfl) (by kernel_rfl) (Upd.refl _ _).drew ?_
      repeat (first
        | (refine wpQuiet_val rfl (quiet_load_row 23 _ rfl (b16) rfl _ hQ17_B.out Tryd.underlying23 rfl hsB) ?_)
        | (refine wpQuiet_val rfl (quiet_load_row 23 _ rfl (b10) rfl _ hQ17_H.out Tryd.underlying23 rfl hsH) ?_)
        | (refine wpQuiet_step (fun K hK => ?_)
           go_simp
           first
             | (refine ⟨_, fun _ _ => rfl, hK _ ?_⟩; clear hK K)
             | ((with_reducible refine ⟨_, fun w2 hw2 => (K4'.out w2 (HG17.out.upd hw2 (by simp)) (HF17.out.upd hw2 (by simp))).mono (fun e w' h => ⟨h.1, hw2.trans h.2⟩), hK _ ?_⟩); clear hK K)
             | (refine hK _ ?_; clear hK K)))
      refine wpQuiet_nil ?_
      intro w18 hU18
      clear HG17 HF17 hQ17_B hQ17_H
      have h18_s := hU18.heap h17_s (by simp)
      have h18_A := hU18.heap h17_A (by simp)
      have h18_L := hU18.heap h17_L (by simp)
      have h18_H := hU18.heap h17_H (by simp)
      have h18_B := hU18.heap h17_B (by simp)
      have hV18 := hV17.trans hU18
      clear hU18 hV17 h17_s h17_A h17_L h17_H h17_B
      go_wp2
      go_ret
      exact ⟨rfl, hV18⟩
end Go.Proofs.YtldhjpliknfhiaaDoor
