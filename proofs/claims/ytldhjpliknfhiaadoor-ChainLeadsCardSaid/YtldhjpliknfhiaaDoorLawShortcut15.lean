/-
  The law ChainShortcut.
-/
import Derived.Test.YtldhjpliknfhiaaDoorLawSteps15
import Derived.Test.YtldhjpliknfhiaaDoorArms
namespace Go.Proofs.YtldhjpliknfhiaaDoor
open Go Go.RowKit Go.Proofs
theorem zero_hash (w : World) : (zeroValue 23).run Tryd.prog w = .ok (.agg (zrow8 32)) w := by kernel_rfl
def walkB (n i : Int) : Bool := mayRide n && decide (0 ≤ i) && decide (i ≤ n)
set_option maxHeartbeats 1600000 in
theorem walkable_ (w : World) (n i : Int) : Calls Tryd.prog 25 #[.int .i64 n, .int .i64 i] w fun e w' => e = .returned (.bool (walkB n i)) ∧ w = w' := by
  by_cases h0 : 1 ≤ n
  · by_cases h1 : n ≤ 4096
    · by_cases h2 : 0 ≤ i
      · by_cases h3 : i ≤ n
        · have e : walkB n i = true := by simp [walkB, mayRide, *]
          rw [e]; go_enter Tryd.func25, Tryd.ntmps25
          go_wp2; go_ret; exact ⟨rfl, rfl⟩
        · have e : walkB n i = false := by simp [walkB, mayRide, *]
          rw [e]; go_enter Tryd.func25, Tryd.ntmps25
          go_wp2; go_ret; exact ⟨rfl, rfl⟩
      · have e : walkB n i = false := by simp [walkB, mayRide, *]
        rw [e]; go_enter Tryd.func25, Tryd.ntmps25
        go_wp2; go_ret; exact ⟨rfl, rfl⟩
    · have e : walkB n i = false := by simp [walkB, mayRide, *]
      rw [e]; go_enter Tryd.func25, Tryd.ntmps25
      go_wp2; go_ret; exact ⟨rfl, rfl⟩
  · have e : walkB n i = false := by simp [walkB, mayRide, *]
    rw [e]; go_enter Tryd.func25, Tryd.ntmps25
    go_wp2; go_ret; exact ⟨rfl, rfl⟩
theorem iterOf_nat (m : List (BitVec 8)) (n : Int) (h0 : 0 ≤ n) (h1 : n ≤ 4096) : iterOf m n = (steps m n.toNat, true) := by
  unfold iterOf; rw [if_neg (by omega)]
theorem link_self (m : List (BitVec 8)) : linkOf 3 m 3 m = true := by simp [linkOf, iterOf, steps]
theorem walkB_spec {n i : Int} (h : walkB n i = true) : mayRide n = true ∧ 1 ≤ n ∧ n ≤ 4096 ∧ 0 ≤ i ∧ i ≤ n := by
  simp only [walkB, mayRide, Bool.and_eq_true, decide_eq_true_eq] at h ⊢
  obtain ⟨⟨⟨h1, h2⟩, h3⟩, h4⟩ := h
  exact ⟨⟨h1, h2⟩, h1, h2, h3, h4⟩
theorem checkOf_in {n i : Int} (h : walkB n i = true) (a v : List (BitVec 8)) : checkOf a n i v = (steps v i.toNat == a) := by
  obtain ⟨h0, h1, h2, h3, h4⟩ := walkB_spec h
  unfold checkOf; rw [if_neg (by simp only [h0, not_or]; refine ⟨by simp, by omega, by omega⟩), iterOf_nat v i h3 (by omega)]
theorem linkOf_in {n i k : Int} (h : walkB n i = true) (h' : walkB n k = true) (hik : i ≤ k) (a v : List (BitVec 8)) : linkOf i a k v = (steps v (k - i).toNat == a) := by
  obtain ⟨h0, h1, h2, h3, h4⟩ := walkB_spec h
  obtain ⟨_, _, _, h5, h6⟩ := walkB_spec h'
  unfold linkOf; rw [if_neg (by omega), iterOf_nat v _ (by omega) (by omega)]
theorem short_law {n i k : Int} (h : walkB n i = true) (h' : walkB n k = true) (hik : i ≤ k) (a low high : List (BitVec 8)) (h1 : checkOf a n i low = true) (h2 : linkOf i low k high = true) : checkOf a n k high = true := by
  obtain ⟨_, _, _, h3, h4⟩ := walkB_spec h
  rw [checkOf_in h] at h1
  rw [linkOf_in h h' hik] at h2
  rw [checkOf_in h']
  have e1 := eq_of_beq h1
  have e2 := eq_of_beq h2
  rw [← e2, steps_add] at e1
  rw [show (k - i).toNat + i.toNat = k.toNat by omega] at e1
  simp [e1]
theorem mid_law {n i k : Int} (h : walkB n i = true) (h' : walkB n k = true) (hik : i ≤ k) (a high : List (BitVec 8)) : iterOf high (k - i) = (steps high (k - i).toNat, true) ∧ linkOf i (steps high (k - i).toNat) k high = true ∧ checkOf a n i (steps high (k - i).toNat) = checkOf a n k high := by
  obtain ⟨_, _, _, h3, h4⟩ := walkB_spec h
  obtain ⟨_, _, _, h5, h6⟩ := walkB_spec h'
  refine ⟨iterOf_nat _ _ (by omega) (by omega), by rw [linkOf_in h h' hik]; simp, ?_⟩
  rw [checkOf_in h, checkOf_in h', steps_add, show (k - i).toNat + i.toNat = k.toNat by omega]
set_option maxRecDepth 100000 in
set_option maxHeartbeats 6400000 in
theorem law_shortcut15 (w : World) (anchor low high : List (BitVec 8)) (n early late : Int) (ha : anchor.length = 32) (hl : low.length = 32) (hh : high.length = 32) (hg : Gl256 w) (hf : GlFirst256 w) :
    Calls Tryd.prog 7 #[.agg (anchor.map U8).toArray, .int .i64 n, .int .i64 early, .agg (low.map U8).toArray, .int .i64 late, .agg (high.map U8).toArray] w fun x w' => x = .returned (.bool true) ∧ Upd [] w w' := by
  have h3 := fun w h1 h2 => step_ w low hl h1 h2
  have h4 := fun w v h1 h3 h4 => sum256 w v low h1 (by omega) h3 h4
  have h5 := fun w h1 h2 => link_ w low low 3 3 hl hl h1 h2
  rw [link_self] at h5
  have k1 := fun w h1 h2 => check_ w anchor low n early ha hl h1 h2
  have k2 := fun w h1 h2 => link_ w low high early late hl hh h1 h2
  have k3 := fun w h1 h2 => check_ w anchor high n late ha hh h1 h2
  have hIT := fun w h1 h2 => iterate_ w high (late - early) hh h1 h2
  have k4 := fun w M hM h1 h2 => link_ w M high early late hM hh h1 h2
  have k5 := fun w M hM h1 h2 => check_ w anchor M n early ha hM h1 h2
  have hW1 := fun w => walkable_ w n early
  have hW2 := fun w => walkable_ w n late
  obtain ⟨x1, hx1⟩ : ∃ x, walkB n early = x := ⟨_, rfl⟩
  obtain ⟨x2, hx2⟩ : ∃ x, walkB n late = x := ⟨_, rfl⟩
  obtain ⟨c1, hc1⟩ : ∃ x, checkOf anchor n early low = x := ⟨_, rfl⟩
  obtain ⟨c2, hc2⟩ : ∃ x, linkOf early low late high = x := ⟨_, rfl⟩
  obtain ⟨c3, hc3⟩ : ∃ x, checkOf anchor n late high = x := ⟨_, rfl⟩
  have hlaw := fun h1 h2 h3 => short_law (n := n) (i := early) (k := late) h1 h2 h3 anchor low high
  have hmid := fun h1 h2 h3 => mid_law (n := n) (i := early) (k := late) h1 h2 h3 anchor high
  rw [hx1, hx2, hc1, hc2, hc3] at hlaw
  rw [hx1, hx2, hc3] at hmid
  rw [hx1] at hW1
  rw [hx2] at hW2
  rw [hc1] at k1
  rw [hc2] at k2
  rw [hc3] at k3
  obtain ⟨S, hS⟩ : ∃ S, sha256 low = S := ⟨_, rfl⟩
  have hSl : S.length = 32 := by rw [← hS]; exact sha256_length low
  rw [hS] at h3 h4
  have hrd := fun (w : World) (B : Nat) (h : w.heap[B]? = some (.cells (low.map U8).toArray 23 (0, 0))) => rd_row h hl
  obtain ⟨ca, hca⟩ : ∃ cs, (anchor.map U8).toArray = cs := ⟨_, rfl⟩
  obtain ⟨cl, hcl⟩ : ∃ cs, (low.map U8).toArray = cs := ⟨_, rfl⟩
  obtain ⟨ch, hch⟩ : ∃ cs, (high.map U8).toArray = cs := ⟨_, rfl⟩
  have hsa := size_of32 ha
  have hsl := size_of32 hl
  have hsh := size_of32 hh
  have hq2 := fun w => neq_h32 S S hSl hSl w
  have hgd := guard_h32
  simp only [bne_self_eq_false] at hq2
  obtain ⟨ct, hct⟩ : ∃ cs, (S.map U8).toArray = cs := ⟨_, rfl⟩
  have hSl2 := hSl
  rw [hca] at hsa ⊢
  rw [hcl] at hsl ⊢
  rw [hch] at hsh ⊢
  simp only [hca, hcl, hch, hct] at h3 h4 h5 k1 k2 k3 k4 k5 hIT hq2 hrd
  have H3 := Lib.hid h3
  have H4 := Lib.hid h4
  have H5 := Lib.hid h5
  have K1 := Lib.hid k1
  have K2 := Lib.hid k2
  have K3 := Lib.hid k3
  have K4 := Lib.hid k4
  have K5 := Lib.hid k5
  have HIT := Lib.hid hIT
  have HW1 := Lib.hid hW1
  have HW2 := Lib.hid hW2
  have HRD := Lib.hid hrd
  have HLAW := Lib.hid hlaw
  have HMID := Lib.hid hmid
  have HBB : Hid (x1 = true → x2 = true → 0 ≤ early ∧ late ≤ 4096) := fun h h' => by
    obtain ⟨_, _, _, q1, _⟩ := walkB_spec (hx1.trans h)
    obtain ⟨_, _, q2, _, q3⟩ := walkB_spec (hx2.trans h')
    exact ⟨q1, by omega⟩
  have HG := Lib.hid hg
  have HF := Lib.hid hf
  have HHH := Lib.hid hh
  clear h3 h4 h5 k1 k2 k3 k4 k5 hIT hW1 hW2 hrd hlaw hmid hg hf hca hcl hch hct hS hx1 hx2 hc1 hc2 hc3 ha hl hh hSl2
  cases x1 with
  | false =>
    go_enter Tryd.func7, Tryd.ntmps7
    go_wp2_with (first
          | (with_reducible refine arm_load (by with_unfolding_all exact rfl) (by assumption) Tryd.underlying23 (by with_unfolding_all exact rfl) (by assumption) ?_)
          | (with_reducible refine arm_load_g (by with_unfolding_all exact rfl) (by with_unfolding_all exact rfl) (by assumption) Tryd.underlying23 (by with_unfolding_all exact rfl) (by assumption) ?_)
          | (with_reducible refine arm_box (by with_unfolding_all exact rfl) ?_))
    intro b1 w1 hb1 h1_a hU1 hz1
    clear hz1 hb1
    change w1.heap[b1]? = some (.cells ca 23 (0, 0)) at h1_a
    have hV1 : Upd [] w w1 := hU1
    clear hU1
    go_wp2_with (first
          | (with_reducible refine arm_load (by with_unfolding_all exact rfl) (by assumption) Tryd.underlying23 (by with_unfolding_all exact rfl) (by assumption) ?_)
          | (with_reducible refine arm_load_g (by with_unfolding_all exact rfl) (by with_unfolding_all exact rfl) (by assumption) Tryd.underlying23 (by with_unfolding_all exact rfl) (by assumption) ?_)
          | (with_reducible refine arm_box (by with_unfolding_all exact rfl) ?_))
    intro b2 w2 hb2 h2_l hU2 hz2
    clear hz2 hb2
    change w2.heap[b2]? = some (.cells cl 23 (0, 0)) at h2_l
    have h2_a := hU2.heap h1_a (by simp)
    have hV2 := hV1.trans hU2
    clear hU2 hV1 h1_a
    go_wp2_with (first
          | (with_reducible refine arm_load (by with_unfolding_all exact rfl) (by assumption) Tryd.underlying23 (by with_unfolding_all exact rfl) (by assumption) ?_)
          | (with_reducible refine arm_load_g (by with_unfolding_all exact rfl) (by with_unfolding_all exact rfl) (by assumption) Tryd.underlying23 (by with_unfolding_all exact rfl) (by assumption) ?_)
          | (with_reducible refine arm_box (by with_unfolding_all exact rfl) ?_))
    intro b3 w3 hb3 h3_h hU3 hz3
    clear hz3 hb3
    change w3.heap[b3]? = some (.cells ch 23 (0, 0)) at h3_h
    have h3_a := hU3.heap h2_a (by simp)
    have h3_l := hU3.heap h2_l (by simp)
    have hV3 := hV2.trans hU3
    clear hU3 hV2 h2_a h2_l
    go_upto_region 1 with (first
          | (with_reducible refine arm_load (by with_unfolding_all exact rfl) (by assumption) Tryd.underlying23 (by with_unfolding_all exact rfl) (by assumption) ?_)
          | (with_reducible refine arm_load_g (by with_unfolding_all exact rfl) (by with_unfolding_all exact rfl) (by assumption) Tryd.underlying23 (by with_unfolding_all exact rfl) (by assumption) ?_))
    have hQ3_l : Hid (∀ w', Upd [] w3 w' → ∃ t fr, w'.heap[b2]? = some (.cells cl t fr)) := fun w' h => ⟨_, _, h.heap h3_l (by simp)⟩
    have hR3_l : Hid (∀ w', Upd [] w3 w' → RdB w' (.slice (some ⟨b2, 0, none⟩) 32 32) low) := fun w' h => HRD.out _ _ (h.heap h3_l (by simp))
    have HG3 := Lib.hid (HG.out.upd hV3 (by simp))
    have HF3 := Lib.hid (HF.out.upd hV3 (by simp))
    refine wp_region_quiet_all (Upd [] w3) (by kernel_rfl) (by kernel_rfl) (Upd.refl _ _).drew ?_
    repeat (first
      | (refine wpQuiet_val rfl (quiet_load_row 23 _ rfl (b2) rfl _ hQ3_l.out Tryd.underlying23 rfl hsl) ?_)
      | (refine wpQuiet_step (fun K hK => ?_)
         go_simp
         first
           | (refine ⟨_, fun _ _ => rfl, hK _ ?_⟩; clear hK K)
           | ((with_reducible refine ⟨_, fun w2 hw2 => (H3.out w2 (HG3.out.upd hw2 (by simp)) (HF3.out.upd hw2 (by simp))).mono (fun e w' h => ⟨h.1, hw2.trans h.2⟩), hK _ ?_⟩); clear hK K)
           | ((with_reducible refine ⟨_, fun w2 hw2 => (H4.out w2 _ (hR3_l.out _ hw2) (HG3.out.upd hw2 (by simp)) (HF3.out.upd hw2 (by simp))).mono (fun e w' h => ⟨h.1, hw2.trans h.2⟩), hK _ ?_⟩); clear hK K)
           | ((with_reducible refine ⟨_, fun w2 hw2 => (H5.out w2 (HG3.out.upd hw2 (by simp)) (HF3.out.upd hw2 (by simp))).mono (fun e w' h => ⟨h.1, hw2.trans h.2⟩), hK _ ?_⟩); clear hK K)
           | (refine hK _ ?_; clear hK K)))
    refine wpQuiet_nil ?_
    intro w4 hU4
    clear HG3 HF3 hQ3_l hR3_l
    have h4_a := hU4.heap h3_a (by simp)
    have h4_l := hU4.heap h3_l (by simp)
    have h4_h := hU4.heap h3_h (by simp)
    have hV4 := hV3.trans hU4
    clear hU4 hV3 h3_a h3_l h3_h
    go_wp2_with (first
          | (with_reducible refine arm_load (by with_unfolding_all exact rfl) (by assumption) Tryd.underlying23 (by with_unfolding_all exact rfl) (by assumption) ?_)
          | (with_reducible refine arm_load_g (by with_unfolding_all exact rfl) (by with_unfolding_all exact rfl) (by assumption) Tryd.underlying23 (by with_unfolding_all exact rfl) (by assumption) ?_))
    with_reducible refine (HW1.out _).mono ?_
    rintro e w5 ⟨rfl, rfl⟩
    go_wp2
    go_ret
    exact ⟨rfl, hV4⟩
  | true =>
  cases x2 with
  | false =>
    go_enter Tryd.func7, Tryd.ntmps7
    go_wp2_with (first
          | (with_reducible refine arm_load (by with_unfolding_all exact rfl) (by assumption) Tryd.underlying23 (by with_unfolding_all exact rfl) (by assumption) ?_)
          | (with_reducible refine arm_load_g (by with_unfolding_all exact rfl) (by with_unfolding_all exact rfl) (by assumption) Tryd.underlying23 (by with_unfolding_all exact rfl) (by assumption) ?_)
          | (with_reducible refine arm_box (by with_unfolding_all exact rfl) ?_))
    intro b1 w1 hb1 h1_a hU1 hz1
    clear hz1 hb1
    change w1.heap[b1]? = some (.cells ca 23 (0, 0)) at h1_a
    have hV1 : Upd [] w w1 := hU1
    clear hU1
    go_wp2_with (first
          | (with_reducible refine arm_load (by with_unfolding_all exact rfl) (by assumption) Tryd.underlying23 (by with_unfolding_all exact rfl) (by assumption) ?_)
          | (with_reducible refine arm_load_g (by with_unfolding_all exact rfl) (by with_unfolding_all exact rfl) (by assumption) Tryd.underlying23 (by with_unfolding_all exact rfl) (by assumption) ?_)
          | (with_reducible refine arm_box (by with_unfolding_all exact rfl) ?_))
    intro b2 w2 hb2 h2_l hU2 hz2
    clear hz2 hb2
    change w2.heap[b2]? = some (.cells cl 23 (0, 0)) at h2_l
    have h2_a := hU2.heap h1_a (by simp)
    have hV2 := hV1.trans hU2
    clear hU2 hV1 h1_a
    go_wp2_with (first
          | (with_reducible refine arm_load (by with_unfolding_all exact rfl) (by assumption) Tryd.underlying23 (by with_unfolding_all exact rfl) (by assumption) ?_)
          | (with_reducible refine arm_load_g (by with_unfolding_all exact rfl) (by with_unfolding_all exact rfl) (by assumption) Tryd.underlying23 (by with_unfolding_all exact rfl) (by assumption) ?_)
          | (with_reducible refine arm_box (by with_unfolding_all exact rfl) ?_))
    intro b3 w3 hb3 h3_h hU3 hz3
    clear hz3 hb3
    change w3.heap[b3]? = some (.cells ch 23 (0, 0)) at h3_h
    have h3_a := hU3.heap h2_a (by simp)
    have h3_l := hU3.heap h2_l (by simp)
    have hV3 := hV2.trans hU3
    clear hU3 hV2 h2_a h2_l
    go_upto_region 1 with (first
          | (with_reducible refine arm_load (by with_unfolding_all exact rfl) (by assumption) Tryd.underlying23 (by with_unfolding_all exact rfl) (by assumption) ?_)
          | (with_reducible refine arm_load_g (by with_unfolding_all exact rfl) (by with_unfolding_all exact rfl) (by assumption) Tryd.underlying23 (by with_unfolding_all exact rfl) (by assumption) ?_))
    have hQ3_l : Hid (∀ w', Upd [] w3 w' → ∃ t fr, w'.heap[b2]? = some (.cells cl t fr)) := fun w' h => ⟨_, _, h.heap h3_l (by simp)⟩
    have hR3_l : Hid (∀ w', Upd [] w3 w' → RdB w' (.slice (some ⟨b2, 0, none⟩) 32 32) low) := fun w' h => HRD.out _ _ (h.heap h3_l (by simp))
    have HG3 := Lib.hid (HG.out.upd hV3 (by simp))
    have HF3 := Lib.hid (HF.out.upd hV3 (by simp))
    refine wp_region_quiet_all (Upd [] w3) (by kernel_rfl) (by kernel_rfl) (Upd.refl _ _).drew ?_
    repeat (first
      | (refine wpQuiet_val rfl (quiet_load_row 23 _ rfl (b2) rfl _ hQ3_l.out Tryd.underlying23 rfl hsl) ?_)
      | (refine wpQuiet_step (fun K hK => ?_)
         go_simp
         first
           | (refine ⟨_, fun _ _ => rfl, hK _ ?_⟩; clear hK K)
           | ((with_reducible refine ⟨_, fun w2 hw2 => (H3.out w2 (HG3.out.upd hw2 (by simp)) (HF3.out.upd hw2 (by simp))).mono (fun e w' h => ⟨h.1, hw2.trans h.2⟩), hK _ ?_⟩); clear hK K)
           | ((with_reducible refine ⟨_, fun w2 hw2 => (H4.out w2 _ (hR3_l.out _ hw2) (HG3.out.upd hw2 (by simp)) (HF3.out.upd hw2 (by simp))).mono (fun e w' h => ⟨h.1, hw2.trans h.2⟩), hK _ ?_⟩); clear hK K)
           | ((with_reducible refine ⟨_, fun w2 hw2 => (H5.out w2 (HG3.out.upd hw2 (by simp)) (HF3.out.upd hw2 (by simp))).mono (fun e w' h => ⟨h.1, hw2.trans h.2⟩), hK _ ?_⟩); clear hK K)
           | (refine hK _ ?_; clear hK K)))
    refine wpQuiet_nil ?_
    intro w4 hU4
    clear HG3 HF3 hQ3_l hR3_l
    have h4_a := hU4.heap h3_a (by simp)
    have h4_l := hU4.heap h3_l (by simp)
    have h4_h := hU4.heap h3_h (by simp)
    have hV4 := hV3.trans hU4
    clear hU4 hV3 h3_a h3_l h3_h
    go_wp2_with (first
          | (with_reducible refine arm_load (by with_unfolding_all exact rfl) (by assumption) Tryd.underlying23 (by with_unfolding_all exact rfl) (by assumption) ?_)
          | (with_reducible refine arm_load_g (by with_unfolding_all exact rfl) (by with_unfolding_all exact rfl) (by assumption) Tryd.underlying23 (by with_unfolding_all exact rfl) (by assumption) ?_))
    with_reducible refine (HW1.out _).mono ?_
    rintro e w5 ⟨rfl, rfl⟩
    go_wp2_with (first
          | (with_reducible refine arm_load (by with_unfolding_all exact rfl) (by assumption) Tryd.underlying23 (by with_unfolding_all exact rfl) (by assumption) ?_)
          | (with_reducible refine arm_load_g (by with_unfolding_all exact rfl) (by with_unfolding_all exact rfl) (by assumption) Tryd.underlying23 (by with_unfolding_all exact rfl) (by assumption) ?_))
    with_reducible refine (HW2.out _).mono ?_
    rintro e w5 ⟨rfl, rfl⟩
    go_wp2
    go_ret
    exact ⟨rfl, hV4⟩
  | true =>
  by_cases hlt : late < early
  · go_enter Tryd.func7, Tryd.ntmps7
    go_wp2_with (first
          | (with_reducible refine arm_load (by with_unfolding_all exact rfl) (by assumption) Tryd.underlying23 (by with_unfolding_all exact rfl) (by assumption) ?_)
          | (with_reducible refine arm_load_g (by with_unfolding_all exact rfl) (by with_unfolding_all exact rfl) (by assumption) Tryd.underlying23 (by with_unfolding_all exact rfl) (by assumption) ?_)
          | (with_reducible refine arm_box (by with_unfolding_all exact rfl) ?_))
    intro b1 w1 hb1 h1_a hU1 hz1
    clear hz1 hb1
    change w1.heap[b1]? = some (.cells ca 23 (0, 0)) at h1_a
    have hV1 : Upd [] w w1 := hU1
    clear hU1
    go_wp2_with (first
          | (with_reducible refine arm_load (by with_unfolding_all exact rfl) (by assumption) Tryd.underlying23 (by with_unfolding_all exact rfl) (by assumption) ?_)
          | (with_reducible refine arm_load_g (by with_unfolding_all exact rfl) (by with_unfolding_all exact rfl) (by assumption) Tryd.underlying23 (by with_unfolding_all exact rfl) (by assumption) ?_)
          | (with_reducible refine arm_box (by with_unfolding_all exact rfl) ?_))
    intro b2 w2 hb2 h2_l hU2 hz2
    clear hz2 hb2
    change w2.heap[b2]? = some (.cells cl 23 (0, 0)) at h2_l
    have h2_a := hU2.heap h1_a (by simp)
    have hV2 := hV1.trans hU2
    clear hU2 hV1 h1_a
    go_wp2_with (first
          | (with_reducible refine arm_load (by with_unfolding_all exact rfl) (by assumption) Tryd.underlying23 (by with_unfolding_all exact rfl) (by assumption) ?_)
          | (with_reducible refine arm_load_g (by with_unfolding_all exact rfl) (by with_unfolding_all exact rfl) (by assumption) Tryd.underlying23 (by with_unfolding_all exact rfl) (by assumption) ?_)
          | (with_reducible refine arm_box (by with_unfolding_all exact rfl) ?_))
    intro b3 w3 hb3 h3_h hU3 hz3
    clear hz3 hb3
    change w3.heap[b3]? = some (.cells ch 23 (0, 0)) at h3_h
    have h3_a := hU3.heap h2_a (by simp)
    have h3_l := hU3.heap h2_l (by simp)
    have hV3 := hV2.trans hU3
    clear hU3 hV2 h2_a h2_l
    go_upto_region 1 with (first
          | (with_reducible refine arm_load (by with_unfolding_all exact rfl) (by assumption) Tryd.underlying23 (by with_unfolding_all exact rfl) (by assumption) ?_)
          | (with_reducible refine arm_load_g (by with_unfolding_all exact rfl) (by with_unfolding_all exact rfl) (by assumption) Tryd.underlying23 (by with_unfolding_all exact rfl) (by assumption) ?_))
    have hQ3_l : Hid (∀ w', Upd [] w3 w' → ∃ t fr, w'.heap[b2]? = some (.cells cl t fr)) := fun w' h => ⟨_, _, h.heap h3_l (by simp)⟩
    have hR3_l : Hid (∀ w', Upd [] w3 w' → RdB w' (.slice (some ⟨b2, 0, none⟩) 32 32) low) := fun w' h => HRD.out _ _ (h.heap h3_l (by simp))
    have HG3 := Lib.hid (HG.out.upd hV3 (by simp))
    have HF3 := Lib.hid (HF.out.upd hV3 (by simp))
    refine wp_region_quiet_all (Upd [] w3) (by kernel_rfl) (by kernel_rfl) (Upd.refl _ _).drew ?_
    repeat (first
      | (refine wpQuiet_val rfl (quiet_load_row 23 _ rfl (b2) rfl _ hQ3_l.out Tryd.underlying23 rfl hsl) ?_)
      | (refine wpQuiet_step (fun K hK => ?_)
         go_simp
         first
           | (refine ⟨_, fun _ _ => rfl, hK _ ?_⟩; clear hK K)
           | ((with_reducible refine ⟨_, fun w2 hw2 => (H3.out w2 (HG3.out.upd hw2 (by simp)) (HF3.out.upd hw2 (by simp))).mono (fun e w' h => ⟨h.1, hw2.trans h.2⟩), hK _ ?_⟩); clear hK K)
           | ((with_reducible refine ⟨_, fun w2 hw2 => (H4.out w2 _ (hR3_l.out _ hw2) (HG3.out.upd hw2 (by simp)) (HF3.out.upd hw2 (by simp))).mono (fun e w' h => ⟨h.1, hw2.trans h.2⟩), hK _ ?_⟩); clear hK K)
           | ((with_reducible refine ⟨_, fun w2 hw2 => (H5.out w2 (HG3.out.upd hw2 (by simp)) (HF3.out.upd hw2 (by simp))).mono (fun e w' h => ⟨h.1, hw2.trans h.2⟩), hK _ ?_⟩); clear hK K)
           | (refine hK _ ?_; clear hK K)))
    refine wpQuiet_nil ?_
    intro w4 hU4
    clear HG3 HF3 hQ3_l hR3_l
    have h4_a := hU4.heap h3_a (by simp)
    have h4_l := hU4.heap h3_l (by simp)
    have h4_h := hU4.heap h3_h (by simp)
    have hV4 := hV3.trans hU4
    clear hU4 hV3 h3_a h3_l h3_h
    go_wp2_with (first
          | (with_reducible refine arm_load (by with_unfolding_all exact rfl) (by assumption) Tryd.underlying23 (by with_unfolding_all exact rfl) (by assumption) ?_)
          | (with_reducible refine arm_load_g (by with_unfolding_all exact rfl) (by with_unfolding_all exact rfl) (by assumption) Tryd.underlying23 (by with_unfolding_all exact rfl) (by assumption) ?_))
    with_reducible refine (HW1.out _).mono ?_
    rintro e w5 ⟨rfl, rfl⟩
    go_wp2_with (first
          | (with_reducible refine arm_load (by with_unfolding_all exact rfl) (by assumption) Tryd.underlying23 (by with_unfolding_all exact rfl) (by assumption) ?_)
          | (with_reducible refine arm_load_g (by with_unfolding_all exact rfl) (by with_unfolding_all exact rfl) (by assumption) Tryd.underlying23 (by with_unfolding_all exact rfl) (by assumption) ?_))
    with_reducible refine (HW2.out _).mono ?_
    rintro e w5 ⟨rfl, rfl⟩
    go_wp2
    go_ret
    exact ⟨rfl, hV4⟩
  · have HL := Lib.hid (HLAW.out rfl rfl (by omega))
    have hbb := HBB.out rfl rfl
    clear HBB
    obtain ⟨e1, e2, e3⟩ := HMID.out rfl rfl (by omega)
    have hMl := iterOf_length high (late - early) HHH.out
    obtain ⟨M, hM⟩ : ∃ M, steps high (late - early).toNat = M := ⟨_, rfl⟩
    simp only [hM] at e1 e2 e3
    have hIT := HIT.out
    rw [e1] at hIT hMl
    have hMl : M.length = 32 := hMl
    have k4 := fun w h1 h2 => K4.out w M hMl h1 h2
    rw [e2] at k4
    have k5 := fun w h1 h2 => K5.out w M hMl h1 h2
    rw [e3] at k5
    have hsm := size_of32 hMl
    have hom := same_size32 hMl
    have ham := one_of32 M
    obtain ⟨cm, hcm⟩ : ∃ cs, (M.map U8).toArray = cs := ⟨_, rfl⟩
    simp only [hcm] at hIT k4 k5 hsm hom ham
    have HI := Lib.hid hIT
    have K4' := Lib.hid k4
    have K5' := Lib.hid k5
    clear hIT k4 k5 e1 e2 e3 hM hcm HLAW HMID HIT K4 K5 hMl
    have hlt' : ¬ (early > late) := by omega
    have hb1 : 0 ≤ early := hbb.1
    have hb2 : early ≤ late := by omega
    have hb3 : late ≤ 4096 := hbb.2
    clear hbb hlt
    cases c1 with
    | false =>
      go_enter Tryd.func7, Tryd.ntmps7
      go_wp2_with (first
              | (with_reducible refine arm_load (by with_unfolding_all exact rfl) (by assumption) Tryd.underlying23 (by with_unfolding_all exact rfl) (by assumption) ?_)
              | (with_reducible refine arm_load_g (by with_unfolding_all exact rfl) (by with_unfolding_all exact rfl) (by assumption) Tryd.underlying23 (by with_unfolding_all exact rfl) (by assumption) ?_)
              | (with_reducible refine arm_box (by with_unfolding_all exact rfl) ?_))
      intro b1 w1 hb1 h1_a hU1 hz1
      clear hz1 hb1
      change w1.heap[b1]? = some (.cells ca 23 (0, 0)) at h1_a
      have hV1 : Upd [] w w1 := hU1
      clear hU1
      go_wp2_with (first
              | (with_reducible refine arm_load (by with_unfolding_all exact rfl) (by assumption) Tryd.underlying23 (by with_unfolding_all exact rfl) (by assumption) ?_)
              | (with_reducible refine arm_load_g (by with_unfolding_all exact rfl) (by with_unfolding_all exact rfl) (by assumption) Tryd.underlying23 (by with_unfolding_all exact rfl) (by assumption) ?_)
              | (with_reducible refine arm_box (by with_unfolding_all exact rfl) ?_))
      intro b2 w2 hb2 h2_l hU2 hz2
      clear hz2 hb2
      change w2.heap[b2]? = some (.cells cl 23 (0, 0)) at h2_l
      have h2_a := hU2.heap h1_a (by simp)
      have hV2 := hV1.trans hU2
      clear hU2 hV1 h1_a
      go_wp2_with (first
              | (with_reducible refine arm_load (by with_unfolding_all exact rfl) (by assumption) Tryd.underlying23 (by with_unfolding_all exact rfl) (by assumption) ?_)
              | (with_reducible refine arm_load_g (by with_unfolding_all exact rfl) (by with_unfolding_all exact rfl) (by assumption) Tryd.underlying23 (by with_unfolding_all exact rfl) (by assumption) ?_)
              | (with_reducible refine arm_box (by with_unfolding_all exact rfl) ?_))
      intro b3 w3 hb3 h3_h hU3 hz3
      clear hz3 hb3
      change w3.heap[b3]? = some (.cells ch 23 (0, 0)) at h3_h
      have h3_a := hU3.heap h2_a (by simp)
      have h3_l := hU3.heap h2_l (by simp)
      have hV3 := hV2.trans hU3
      clear hU3 hV2 h2_a h2_l
      go_upto_region 1 with (first
              | (with_reducible refine arm_load (by with_unfolding_all exact rfl) (by assumption) Tryd.underlying23 (by with_unfolding_all exact rfl) (by assumption) ?_)
              | (with_reducible refine arm_load_g (by with_unfolding_all exact rfl) (by with_unfolding_all exact rfl) (by assumption) Tryd.underlying23 (by with_unfolding_all exact rfl) (by assumption) ?_))
      have hQ3_l : Hid (∀ w', Upd [] w3 w' → ∃ t fr, w'.heap[b2]? = some (.cells cl t fr)) := fun w' h => ⟨_, _, h.heap h3_l (by simp)⟩
      have hR3_l : Hid (∀ w', Upd [] w3 w' → RdB w' (.slice (some ⟨b2, 0, none⟩) 32 32) low) := fun w' h => HRD.out _ _ (h.heap h3_l (by simp))
      have HG3 := Lib.hid (HG.out.upd hV3 (by simp))
      have HF3 := Lib.hid (HF.out.upd hV3 (by simp))
      refine wp_region_quiet_all (Upd [] w3) (by kernel_rfl) (by kernel_rfl) (Upd.refl _ _).drew ?_
      repeat (first
        | (refine wpQuiet_val rfl (quiet_load_row 23 _ rfl (b2) rfl _ hQ3_l.out Tryd.underlying23 rfl hsl) ?_)
        | (refine wpQuiet_step (fun K hK => ?_)
           go_simp
           first
             | (refine ⟨_, fun _ _ => rfl, hK _ ?_⟩; clear hK K)
             | ((with_reducible refine ⟨_, fun w2 hw2 => (H3.out w2 (HG3.out.upd hw2 (by simp)) (HF3.out.upd hw2 (by simp))).mono (fun e w' h => ⟨h.1, hw2.trans h.2⟩), hK _ ?_⟩); clear hK K)
             | ((with_reducible refine ⟨_, fun w2 hw2 => (H4.out w2 _ (hR3_l.out _ hw2) (HG3.out.upd hw2 (by simp)) (HF3.out.upd hw2 (by simp))).mono (fun e w' h => ⟨h.1, hw2.trans h.2⟩), hK _ ?_⟩); clear hK K)
             | ((with_reducible refine ⟨_, fun w2 hw2 => (H5.out w2 (HG3.out.upd hw2 (by simp)) (HF3.out.upd hw2 (by simp))).mono (fun e w' h => ⟨h.1, hw2.trans h.2⟩), hK _ ?_⟩); clear hK K)
             | (refine hK _ ?_; clear hK K)))
      refine wpQuiet_nil ?_
      intro w4 hU4
      clear HG3 HF3 hQ3_l hR3_l
      have h4_a := hU4.heap h3_a (by simp)
      have h4_l := hU4.heap h3_l (by simp)
      have h4_h := hU4.heap h3_h (by simp)
      have hV4 := hV3.trans hU4
      clear hU4 hV3 h3_a h3_l h3_h
      go_wp2_with (first
              | (with_reducible refine arm_load (by with_unfolding_all exact rfl) (by assumption) Tryd.underlying23 (by with_unfolding_all exact rfl) (by assumption) ?_)
              | (with_reducible refine arm_load_g (by with_unfolding_all exact rfl) (by with_unfolding_all exact rfl) (by assumption) Tryd.underlying23 (by with_unfolding_all exact rfl) (by assumption) ?_))
      with_reducible refine (HW1.out _).mono ?_
      rintro e w5 ⟨rfl, rfl⟩
      go_wp2_with (first
              | (with_reducible refine arm_load (by with_unfolding_all exact rfl) (by assumption) Tryd.underlying23 (by with_unfolding_all exact rfl) (by assumption) ?_)
              | (with_reducible refine arm_load_g (by with_unfolding_all exact rfl) (by with_unfolding_all exact rfl) (by assumption) Tryd.underlying23 (by with_unfolding_all exact rfl) (by assumption) ?_))
      with_reducible refine (HW2.out _).mono ?_
      rintro e w5 ⟨rfl, rfl⟩
      go_upto_region 5 with (first
              | (with_reducible refine arm_load (by with_unfolding_all exact rfl) (by assumption) Tryd.underlying23 (by with_unfolding_all exact rfl) (by assumption) ?_)
              | (with_reducible refine arm_load_g (by with_unfolding_all exact rfl) (by with_unfolding_all exact rfl) (by assumption) Tryd.underlying23 (by with_unfolding_all exact rfl) (by assumption) ?_))
      go_wp2_with (first
              | (with_reducible refine arm_load (by with_unfolding_all exact rfl) (by assumption) Tryd.underlying23 (by with_unfolding_all exact rfl) (by assumption) ?_)
              | (with_reducible refine arm_load_g (by with_unfolding_all exact rfl) (by with_unfolding_all exact rfl) (by assumption) Tryd.underlying23 (by with_unfolding_all exact rfl) (by assumption) ?_))
      with_reducible refine (K1.out _ (HG.out.upd hV4 (by simp)) (HF.out.upd hV4 (by simp))).mono ?_
      rintro e w5 ⟨rfl, hU5⟩
      have h5_a := hU5.heap h4_a (by simp)
      have h5_l := hU5.heap h4_l (by simp)
      have h5_h := hU5.heap h4_h (by simp)
      have hV5 := hV4.trans hU5
      clear hU5 hV4 h4_a h4_l h4_h
      go_upto_region 7 with (first
              | (with_reducible refine arm_load (by with_unfolding_all exact rfl) (by assumption) Tryd.underlying23 (by with_unfolding_all exact rfl) (by assumption) ?_)
              | (with_reducible refine arm_load_g (by with_unfolding_all exact rfl) (by with_unfolding_all exact rfl) (by assumption) Tryd.underlying23 (by with_unfolding_all exact rfl) (by assumption) ?_))
      go_wp2_with (first
              | (with_reducible refine arm_load (by with_unfolding_all exact rfl) (by assumption) Tryd.underlying23 (by with_unfolding_all exact rfl) (by assumption) ?_)
              | (with_reducible refine arm_load_g (by with_unfolding_all exact rfl) (by with_unfolding_all exact rfl) (by assumption) Tryd.underlying23 (by with_unfolding_all exact rfl) (by assumption) ?_))
      with_reducible refine (HI.out _ (HG.out.upd hV5 (by simp)) (HF.out.upd hV5 (by simp))).mono ?_
      rintro e w6 ⟨rfl, hU6⟩
      have h6_a := hU6.heap h5_a (by simp)
      have h6_l := hU6.heap h5_l (by simp)
      have h6_h := hU6.heap h5_h (by simp)
      have hV6 := hV5.trans hU6
      clear hU6 hV5 h5_a h5_l h5_h
      go_wp2_with (first
              | (with_reducible refine arm_load (by with_unfolding_all exact rfl) (by assumption) Tryd.underlying23 (by with_unfolding_all exact rfl) (by assumption) ?_)
              | (with_reducible refine arm_load_g (by with_unfolding_all exact rfl) (by with_unfolding_all exact rfl) (by assumption) Tryd.underlying23 (by with_unfolding_all exact rfl) (by assumption) ?_)
              | (with_reducible refine arm_alloc (zero_hash _) ?_))
      intro b7 w7 hb7 hc7 hU7 hz7
      clear hz7
      change w7.heap[b7]? = some (.cells (zrow8 32) 23 (0, 0)) at hc7
      go_wp2_with (first
              | (with_reducible refine arm_load (by with_unfolding_all exact rfl) (by assumption) Tryd.underlying23 (by with_unfolding_all exact rfl) (by assumption) ?_)
              | (with_reducible refine arm_load_g (by with_unfolding_all exact rfl) (by with_unfolding_all exact rfl) (by assumption) Tryd.underlying23 (by with_unfolding_all exact rfl) (by assumption) ?_)
              | (with_reducible refine arm_store (by with_unfolding_all exact rfl) (by with_unfolding_all exact rfl) hc7 hsm hom ham ?_))
      intro w8 h8_m hX8 hz8
      have hU8 := hU7.fresh hb7 hX8
      clear hU7 hc7 hX8 hz8 hb7
      have h8_a := hU8.heap h6_a (by simp)
      have h8_l := hU8.heap h6_l (by simp)
      have h8_h := hU8.heap h6_h (by simp)
      have hV8 := hV6.trans hU8
      clear hU8 hV6 h6_a h6_l h6_h
      go_wp2_with (first
              | (with_reducible refine arm_load (by with_unfolding_all exact rfl) (by assumption) Tryd.underlying23 (by with_unfolding_all exact rfl) (by assumption) ?_)
              | (with_reducible refine arm_load_g (by with_unfolding_all exact rfl) (by with_unfolding_all exact rfl) (by assumption) Tryd.underlying23 (by with_unfolding_all exact rfl) (by assumption) ?_))
      with_reducible refine (K4'.out _ (HG.out.upd hV8 (by simp)) (HF.out.upd hV8 (by simp))).mono ?_
      rintro e w9 ⟨rfl, hU9⟩
      have h9_a := hU9.heap h8_a (by simp)
      have h9_l := hU9.heap h8_l (by simp)
      have h9_h := hU9.heap h8_h (by simp)
      have h9_m := hU9.heap h8_m (by simp)
      have hV9 := hV8.trans hU9
      clear hU9 hV8 h8_a h8_l h8_h h8_m
      go_upto_region 10 with (first
              | (with_reducible refine arm_load (by with_unfolding_all exact rfl) (by assumption) Tryd.underlying23 (by with_unfolding_all exact rfl) (by assumption) ?_)
              | (with_reducible refine arm_load_g (by with_unfolding_all exact rfl) (by with_unfolding_all exact rfl) (by assumption) Tryd.underlying23 (by with_unfolding_all exact rfl) (by assumption) ?_))
      have hQ9_a : Hid (∀ w', Upd [] w9 w' → ∃ t fr, w'.heap[b1]? = some (.cells ca t fr)) := fun w' h => ⟨_, _, h.heap h9_a (by simp)⟩
      have hQ9_h : Hid (∀ w', Upd [] w9 w' → ∃ t fr, w'.heap[b3]? = some (.cells ch t fr)) := fun w' h => ⟨_, _, h.heap h9_h (by simp)⟩
      have hQ9_m : Hid (∀ w', Upd [] w9 w' → ∃ t fr, w'.heap[b7]? = some (.cells cm t fr)) := fun w' h => ⟨_, _, h.heap h9_m (by simp)⟩
      have HG9 := Lib.hid (HG.out.upd hV9 (by simp))
      have HF9 := Lib.hid (HF.out.upd hV9 (by simp))
      refine wp_region_quiet_all (Upd [] w9) (by kernel_rfl) (by kernel_rfl) (Upd.refl _ _).drew ?_
      repeat (first
        | (refine wpQuiet_val rfl (quiet_load_row 23 _ rfl (b1) rfl _ hQ9_a.out Tryd.underlying23 rfl hsa) ?_)
        | (refine wpQuiet_val rfl (quiet_load_row 23 _ rfl (b3) rfl _ hQ9_h.out Tryd.underlying23 rfl hsh) ?_)
        | (refine wpQuiet_val rfl (quiet_load_row 23 _ rfl (b7) rfl _ hQ9_m.out Tryd.underlying23 rfl hsm) ?_)
        | (refine wpQuiet_step (fun K hK => ?_)
           go_simp
           first
             | (refine ⟨_, fun _ _ => rfl, hK _ ?_⟩; clear hK K)
             | ((with_reducible refine ⟨_, fun w2 hw2 => (K3.out w2 (HG9.out.upd hw2 (by simp)) (HF9.out.upd hw2 (by simp))).mono (fun e w' h => ⟨h.1, hw2.trans h.2⟩), hK _ ?_⟩); clear hK K)
             | ((with_reducible refine ⟨_, fun w2 hw2 => (K5'.out w2 (HG9.out.upd hw2 (by simp)) (HF9.out.upd hw2 (by simp))).mono (fun e w' h => ⟨h.1, hw2.trans h.2⟩), hK _ ?_⟩); clear hK K)
             | (refine hK _ ?_; clear hK K)))
      refine wpQuiet_nil ?_
      intro w10 hU10
      clear HG9 HF9 hQ9_a hQ9_h hQ9_m
      have h10_a := hU10.heap h9_a (by simp)
      have h10_l := hU10.heap h9_l (by simp)
      have h10_h := hU10.heap h9_h (by simp)
      have h10_m := hU10.heap h9_m (by simp)
      have hV10 := hV9.trans hU10
      clear hU10 hV9 h9_a h9_l h9_h h9_m
      go_wp2
      go_ret
      exact ⟨rfl, hV10⟩
    | true =>
    cases c2 with
    | false =>
      go_enter Tryd.func7, Tryd.ntmps7
      go_wp2_with (first
              | (with_reducible refine arm_load (by with_unfolding_all exact rfl) (by assumption) Tryd.underlying23 (by with_unfolding_all exact rfl) (by assumption) ?_)
              | (with_reducible refine arm_load_g (by with_unfolding_all exact rfl) (by with_unfolding_all exact rfl) (by assumption) Tryd.underlying23 (by with_unfolding_all exact rfl) (by assumption) ?_)
              | (with_reducible refine arm_box (by with_unfolding_all exact rfl) ?_))
      intro b1 w1 hb1 h1_a hU1 hz1
      clear hz1 hb1
      change w1.heap[b1]? = some (.cells ca 23 (0, 0)) at h1_a
      have hV1 : Upd [] w w1 := hU1
      clear hU1
      go_wp2_with (first
              | (with_reducible refine arm_load (by with_unfolding_all exact rfl) (by assumption) Tryd.underlying23 (by with_unfolding_all exact rfl) (by assumption) ?_)
              | (with_reducible refine arm_load_g (by with_unfolding_all exact rfl) (by with_unfolding_all exact rfl) (by assumption) Tryd.underlying23 (by with_unfolding_all exact rfl) (by assumption) ?_)
              | (with_reducible refine arm_box (by with_unfolding_all exact rfl) ?_))
      intro b2 w2 hb2 h2_l hU2 hz2
      clear hz2 hb2
      change w2.heap[b2]? = some (.cells cl 23 (0, 0)) at h2_l
      have h2_a := hU2.heap h1_a (by simp)
      have hV2 := hV1.trans hU2
      clear hU2 hV1 h1_a
      go_wp2_with (first
              | (with_reducible refine arm_load (by with_unfolding_all exact rfl) (by assumption) Tryd.underlying23 (by with_unfolding_all exact rfl) (by assumption) ?_)
              | (with_reducible refine arm_load_g (by with_unfolding_all exact rfl) (by with_unfolding_all exact rfl) (by assumption) Tryd.underlying23 (by with_unfolding_all exact rfl) (by assumption) ?_)
              | (with_reducible refine arm_box (by with_unfolding_all exact rfl) ?_))
      intro b3 w3 hb3 h3_h hU3 hz3
      clear hz3 hb3
      change w3.heap[b3]? = some (.cells ch 23 (0, 0)) at h3_h
      have h3_a := hU3.heap h2_a (by simp)
      have h3_l := hU3.heap h2_l (by simp)
      have hV3 := hV2.trans hU3
      clear hU3 hV2 h2_a h2_l
      go_upto_region 1 with (first
              | (with_reducible refine arm_load (by with_unfolding_all exact rfl) (by assumption) Tryd.underlying23 (by with_unfolding_all exact rfl) (by assumption) ?_)
              | (with_reducible refine arm_load_g (by with_unfolding_all exact rfl) (by with_unfolding_all exact rfl) (by assumption) Tryd.underlying23 (by with_unfolding_all exact rfl) (by assumption) ?_))
      have hQ3_l : Hid (∀ w', Upd [] w3 w' → ∃ t fr, w'.heap[b2]? = some (.cells cl t fr)) := fun w' h => ⟨_, _, h.heap h3_l (by simp)⟩
      have hR3_l : Hid (∀ w', Upd [] w3 w' → RdB w' (.slice (some ⟨b2, 0, none⟩) 32 32) low) := fun w' h => HRD.out _ _ (h.heap h3_l (by simp))
      have HG3 := Lib.hid (HG.out.upd hV3 (by simp))
      have HF3 := Lib.hid (HF.out.upd hV3 (by simp))
      refine wp_region_quiet_all (Upd [] w3) (by kernel_rfl) (by kernel_rfl) (Upd.refl _ _).drew ?_
      repeat (first
        | (refine wpQuiet_val rfl (quiet_load_row 23 _ rfl (b2) rfl _ hQ3_l.out Tryd.underlying23 rfl hsl) ?_)
        | (refine wpQuiet_step (fun K hK => ?_)
           go_simp
           first
             | (refine ⟨_, fun _ _ => rfl, hK _ ?_⟩; clear hK K)
             | ((with_reducible refine ⟨_, fun w2 hw2 => (H3.out w2 (HG3.out.upd hw2 (by simp)) (HF3.out.upd hw2 (by simp))).mono (fun e w' h => ⟨h.1, hw2.trans h.2⟩), hK _ ?_⟩); clear hK K)
             | ((with_reducible refine ⟨_, fun w2 hw2 => (H4.out w2 _ (hR3_l.out _ hw2) (HG3.out.upd hw2 (by simp)) (HF3.out.upd hw2 (by simp))).mono (fun e w' h => ⟨h.1, hw2.trans h.2⟩), hK _ ?_⟩); clear hK K)
             | ((with_reducible refine ⟨_, fun w2 hw2 => (H5.out w2 (HG3.out.upd hw2 (by simp)) (HF3.out.upd hw2 (by simp))).mono (fun e w' h => ⟨h.1, hw2.trans h.2⟩), hK _ ?_⟩); clear hK K)
             | (refine hK _ ?_; clear hK K)))
      refine wpQuiet_nil ?_
      intro w4 hU4
      clear HG3 HF3 hQ3_l hR3_l
      have h4_a := hU4.heap h3_a (by simp)
      have h4_l := hU4.heap h3_l (by simp)
      have h4_h := hU4.heap h3_h (by simp)
      have hV4 := hV3.trans hU4
      clear hU4 hV3 h3_a h3_l h3_h
      go_wp2_with (first
              | (with_reducible refine arm_load (by with_unfolding_all exact rfl) (by assumption) Tryd.underlying23 (by with_unfolding_all exact rfl) (by assumption) ?_)
              | (with_reducible refine arm_load_g (by with_unfolding_all exact rfl) (by with_unfolding_all exact rfl) (by assumption) Tryd.underlying23 (by with_unfolding_all exact rfl) (by assumption) ?_))
      with_reducible refine (HW1.out _).mono ?_
      rintro e w5 ⟨rfl, rfl⟩
      go_wp2_with (first
              | (with_reducible refine arm_load (by with_unfolding_all exact rfl) (by assumption) Tryd.underlying23 (by with_unfolding_all exact rfl) (by assumption) ?_)
              | (with_reducible refine arm_load_g (by with_unfolding_all exact rfl) (by with_unfolding_all exact rfl) (by assumption) Tryd.underlying23 (by with_unfolding_all exact rfl) (by assumption) ?_))
      with_reducible refine (HW2.out _).mono ?_
      rintro e w5 ⟨rfl, rfl⟩
      go_upto_region 5 with (first
              | (with_reducible refine arm_load (by with_unfolding_all exact rfl) (by assumption) Tryd.underlying23 (by with_unfolding_all exact rfl) (by assumption) ?_)
              | (with_reducible refine arm_load_g (by with_unfolding_all exact rfl) (by with_unfolding_all exact rfl) (by assumption) Tryd.underlying23 (by with_unfolding_all exact rfl) (by assumption) ?_))
      go_wp2_with (first
              | (with_reducible refine arm_load (by with_unfolding_all exact rfl) (by assumption) Tryd.underlying23 (by with_unfolding_all exact rfl) (by assumption) ?_)
              | (with_reducible refine arm_load_g (by with_unfolding_all exact rfl) (by with_unfolding_all exact rfl) (by assumption) Tryd.underlying23 (by with_unfolding_all exact rfl) (by assumption) ?_))
      with_reducible refine (K1.out _ (HG.out.upd hV4 (by simp)) (HF.out.upd hV4 (by simp))).mono ?_
      rintro e w5 ⟨rfl, hU5⟩
      have h5_a := hU5.heap h4_a (by simp)
      have h5_l := hU5.heap h4_l (by simp)
      have h5_h := hU5.heap h4_h (by simp)
      have hV5 := hV4.trans hU5
      clear hU5 hV4 h4_a h4_l h4_h
      go_wp2_with (first
              | (with_reducible refine arm_load (by with_unfolding_all exact rfl) (by assumption) Tryd.underlying23 (by with_unfolding_all exact rfl) (by assumption) ?_)
              | (with_reducible refine arm_load_g (by with_unfolding_all exact rfl) (by with_unfolding_all exact rfl) (by assumption) Tryd.underlying23 (by with_unfolding_all exact rfl) (by assumption) ?_))
      with_reducible refine (K2.out _ (HG.out.upd hV5 (by simp)) (HF.out.upd hV5 (by simp))).mono ?_
      rintro e w6 ⟨rfl, hU6⟩
      have h6_a := hU6.heap h5_a (by simp)
      have h6_l := hU6.heap h5_l (by simp)
      have h6_h := hU6.heap h5_h (by simp)
      have hV6 := hV5.trans hU6
      clear hU6 hV5 h5_a h5_l h5_h
      go_upto_region 7 with (first
              | (with_reducible refine arm_load (by with_unfolding_all exact rfl) (by assumption) Tryd.underlying23 (by with_unfolding_all exact rfl) (by assumption) ?_)
              | (with_reducible refine arm_load_g (by with_unfolding_all exact rfl) (by with_unfolding_all exact rfl) (by assumption) Tryd.underlying23 (by with_unfolding_all exact rfl) (by assumption) ?_))
      go_wp2_with (first
              | (with_reducible refine arm_load (by with_unfolding_all exact rfl) (by assumption) Tryd.underlying23 (by with_unfolding_all exact rfl) (by assumption) ?_)
              | (with_reducible refine arm_load_g (by with_unfolding_all exact rfl) (by with_unfolding_all exact rfl) (by assumption) Tryd.underlying23 (by with_unfolding_all exact rfl) (by assumption) ?_))
      with_reducible refine (HI.out _ (HG.out.upd hV6 (by simp)) (HF.out.upd hV6 (by simp))).mono ?_
      rintro e w7 ⟨rfl, hU7⟩
      have h7_a := hU7.heap h6_a (by simp)
      have h7_l := hU7.heap h6_l (by simp)
      have h7_h := hU7.heap h6_h (by simp)
      have hV7 := hV6.trans hU7
      clear hU7 hV6 h6_a h6_l h6_h
      go_wp2_with (first
              | (with_reducible refine arm_load (by with_unfolding_all exact rfl) (by assumption) Tryd.underlying23 (by with_unfolding_all exact rfl) (by assumption) ?_)
              | (with_reducible refine arm_load_g (by with_unfolding_all exact rfl) (by with_unfolding_all exact rfl) (by assumption) Tryd.underlying23 (by with_unfolding_all exact rfl) (by assumption) ?_)
              | (with_reducible refine arm_alloc (zero_hash _) ?_))
      intro b8 w8 hb8 hc8 hU8 hz8
      clear hz8
      change w8.heap[b8]? = some (.cells (zrow8 32) 23 (0, 0)) at hc8
      go_wp2_with (first
              | (with_reducible refine arm_load (by with_unfolding_all exact rfl) (by assumption) Tryd.underlying23 (by with_unfolding_all exact rfl) (by assumption) ?_)
              | (with_reducible refine arm_load_g (by with_unfolding_all exact rfl) (by with_unfolding_all exact rfl) (by assumption) Tryd.underlying23 (by with_unfolding_all exact rfl) (by assumption) ?_)
              | (with_reducible refine arm_store (by with_unfolding_all exact rfl) (by with_unfolding_all exact rfl) hc8 hsm hom ham ?_))
      intro w9 h9_m hX9 hz9
      have hU9 := hU8.fresh hb8 hX9
      clear hU8 hc8 hX9 hz9 hb8
      have h9_a := hU9.heap h7_a (by simp)
      have h9_l := hU9.heap h7_l (by simp)
      have h9_h := hU9.heap h7_h (by simp)
      have hV9 := hV7.trans hU9
      clear hU9 hV7 h7_a h7_l h7_h
      go_wp2_with (first
              | (with_reducible refine arm_load (by with_unfolding_all exact rfl) (by assumption) Tryd.underlying23 (by with_unfolding_all exact rfl) (by assumption) ?_)
              | (with_reducible refine arm_load_g (by with_unfolding_all exact rfl) (by with_unfolding_all exact rfl) (by assumption) Tryd.underlying23 (by with_unfolding_all exact rfl) (by assumption) ?_))
      with_reducible refine (K4'.out _ (HG.out.upd hV9 (by simp)) (HF.out.upd hV9 (by simp))).mono ?_
      rintro e w10 ⟨rfl, hU10⟩
      have h10_a := hU10.heap h9_a (by simp)
      have h10_l := hU10.heap h9_l (by simp)
      have h10_h := hU10.heap h9_h (by simp)
      have h10_m := hU10.heap h9_m (by simp)
      have hV10 := hV9.trans hU10
      clear hU10 hV9 h9_a h9_l h9_h h9_m
      go_upto_region 10 with (first
              | (with_reducible refine arm_load (by with_unfolding_all exact rfl) (by assumption) Tryd.underlying23 (by with_unfolding_all exact rfl) (by assumption) ?_)
              | (with_reducible refine arm_load_g (by with_unfolding_all exact rfl) (by with_unfolding_all exact rfl) (by assumption) Tryd.underlying23 (by with_unfolding_all exact rfl) (by assumption) ?_))
      have hQ10_a : Hid (∀ w', Upd [] w10 w' → ∃ t fr, w'.heap[b1]? = some (.cells ca t fr)) := fun w' h => ⟨_, _, h.heap h10_a (by simp)⟩
      have hQ10_h : Hid (∀ w', Upd [] w10 w' → ∃ t fr, w'.heap[b3]? = some (.cells ch t fr)) := fun w' h => ⟨_, _, h.heap h10_h (by simp)⟩
      have hQ10_m : Hid (∀ w', Upd [] w10 w' → ∃ t fr, w'.heap[b8]? = some (.cells cm t fr)) := fun w' h => ⟨_, _, h.heap h10_m (by simp)⟩
      have HG10 := Lib.hid (HG.out.upd hV10 (by simp))
      have HF10 := Lib.hid (HF.out.upd hV10 (by simp))
      refine wp_region_quiet_all (Upd [] w10) (by kernel_rfl) (by kernel_rfl) (Upd.refl _ _).drew ?_
      repeat (first
        | (refine wpQuiet_val rfl (quiet_load_row 23 _ rfl (b1) rfl _ hQ10_a.out Tryd.underlying23 rfl hsa) ?_)
        | (refine wpQuiet_val rfl (quiet_load_row 23 _ rfl (b3) rfl _ hQ10_h.out Tryd.underlying23 rfl hsh) ?_)
        | (refine wpQuiet_val rfl (quiet_load_row 23 _ rfl (b8) rfl _ hQ10_m.out Tryd.underlying23 rfl hsm) ?_)
        | (refine wpQuiet_step (fun K hK => ?_)
           go_simp
           first
             | (refine ⟨_, fun _ _ => rfl, hK _ ?_⟩; clear hK K)
             | ((with_reducible refine ⟨_, fun w2 hw2 => (K3.out w2 (HG10.out.upd hw2 (by simp)) (HF10.out.upd hw2 (by simp))).mono (fun e w' h => ⟨h.1, hw2.trans h.2⟩), hK _ ?_⟩); clear hK K)
             | ((with_reducible refine ⟨_, fun w2 hw2 => (K5'.out w2 (HG10.out.upd hw2 (by simp)) (HF10.out.upd hw2 (by simp))).mono (fun e w' h => ⟨h.1, hw2.trans h.2⟩), hK _ ?_⟩); clear hK K)
             | (refine hK _ ?_; clear hK K)))
      refine wpQuiet_nil ?_
      intro w11 hU11
      clear HG10 HF10 hQ10_a hQ10_h hQ10_m
      have h11_a := hU11.heap h10_a (by simp)
      have h11_l := hU11.heap h10_l (by simp)
      have h11_h := hU11.heap h10_h (by simp)
      have h11_m := hU11.heap h10_m (by simp)
      have hV11 := hV10.trans hU11
      clear hU11 hV10 h10_a h10_l h10_h h10_m
      go_wp2
      go_ret
      exact ⟨rfl, hV11⟩
    | true =>
      obtain rfl := HL.out rfl rfl
      go_enter Tryd.func7, Tryd.ntmps7
      go_wp2_with (first
              | (with_reducible refine arm_load (by with_unfolding_all exact rfl) (by assumption) Tryd.underlying23 (by with_unfolding_all exact rfl) (by assumption) ?_)
              | (with_reducible refine arm_load_g (by with_unfolding_all exact rfl) (by with_unfolding_all exact rfl) (by assumption) Tryd.underlying23 (by with_unfolding_all exact rfl) (by assumption) ?_)
              | (with_reducible refine arm_box (by with_unfolding_all exact rfl) ?_))
      intro b1 w1 hb1 h1_a hU1 hz1
      clear hz1 hb1
      change w1.heap[b1]? = some (.cells ca 23 (0, 0)) at h1_a
      have hV1 : Upd [] w w1 := hU1
      clear hU1
      go_wp2_with (first
              | (with_reducible refine arm_load (by with_unfolding_all exact rfl) (by assumption) Tryd.underlying23 (by with_unfolding_all exact rfl) (by assumption) ?_)
              | (with_reducible refine arm_load_g (by with_unfolding_all exact rfl) (by with_unfolding_all exact rfl) (by assumption) Tryd.underlying23 (by with_unfolding_all exact rfl) (by assumption) ?_)
              | (with_reducible refine arm_box (by with_unfolding_all exact rfl) ?_))
      intro b2 w2 hb2 h2_l hU2 hz2
      clear hz2 hb2
      change w2.heap[b2]? = some (.cells cl 23 (0, 0)) at h2_l
      have h2_a := hU2.heap h1_a (by simp)
      have hV2 := hV1.trans hU2
      clear hU2 hV1 h1_a
      go_wp2_with (first
              | (with_reducible refine arm_load (by with_unfolding_all exact rfl) (by assumption) Tryd.underlying23 (by with_unfolding_all exact rfl) (by assumption) ?_)
              | (with_reducible refine arm_load_g (by with_unfolding_all exact rfl) (by with_unfolding_all exact rfl) (by assumption) Tryd.underlying23 (by with_unfolding_all exact rfl) (by assumption) ?_)
              | (with_reducible refine arm_box (by with_unfolding_all exact rfl) ?_))
      intro b3 w3 hb3 h3_h hU3 hz3
      clear hz3 hb3
      change w3.heap[b3]? = some (.cells ch 23 (0, 0)) at h3_h
      have h3_a := hU3.heap h2_a (by simp)
      have h3_l := hU3.heap h2_l (by simp)
      have hV3 := hV2.trans hU3
      clear hU3 hV2 h2_a h2_l
      go_upto_region 1 with (first
              | (with_reducible refine arm_load (by with_unfolding_all exact rfl) (by assumption) Tryd.underlying23 (by with_unfolding_all exact rfl) (by assumption) ?_)
              | (with_reducible refine arm_load_g (by with_unfolding_all exact rfl) (by with_unfolding_all exact rfl) (by assumption) Tryd.underlying23 (by with_unfolding_all exact rfl) (by assumption) ?_))
      have hQ3_l : Hid (∀ w', Upd [] w3 w' → ∃ t fr, w'.heap[b2]? = some (.cells cl t fr)) := fun w' h => ⟨_, _, h.heap h3_l (by simp)⟩
      have hR3_l : Hid (∀ w', Upd [] w3 w' → RdB w' (.slice (some ⟨b2, 0, none⟩) 32 32) low) := fun w' h => HRD.out _ _ (h.heap h3_l (by simp))
      have HG3 := Lib.hid (HG.out.upd hV3 (by simp))
      have HF3 := Lib.hid (HF.out.upd hV3 (by simp))
      refine wp_region_quiet_all (Upd [] w3) (by kernel_rfl) (by kernel_rfl) (Upd.refl _ _).drew ?_
      repeat (first
        | (refine wpQuiet_val rfl (quiet_load_row 23 _ rfl (b2) rfl _ hQ3_l.out Tryd.underlying23 rfl hsl) ?_)
        | (refine wpQuiet_step (fun K hK => ?_)
           go_simp
           first
             | (refine ⟨_, fun _ _ => rfl, hK _ ?_⟩; clear hK K)
             | ((with_reducible refine ⟨_, fun w2 hw2 => (H3.out w2 (HG3.out.upd hw2 (by simp)) (HF3.out.upd hw2 (by simp))).mono (fun e w' h => ⟨h.1, hw2.trans h.2⟩), hK _ ?_⟩); clear hK K)
             | ((with_reducible refine ⟨_, fun w2 hw2 => (H4.out w2 _ (hR3_l.out _ hw2) (HG3.out.upd hw2 (by simp)) (HF3.out.upd hw2 (by simp))).mono (fun e w' h => ⟨h.1, hw2.trans h.2⟩), hK _ ?_⟩); clear hK K)
             | ((with_reducible refine ⟨_, fun w2 hw2 => (H5.out w2 (HG3.out.upd hw2 (by simp)) (HF3.out.upd hw2 (by simp))).mono (fun e w' h => ⟨h.1, hw2.trans h.2⟩), hK _ ?_⟩); clear hK K)
             | (refine hK _ ?_; clear hK K)))
      refine wpQuiet_nil ?_
      intro w4 hU4
      clear HG3 HF3 hQ3_l hR3_l
      have h4_a := hU4.heap h3_a (by simp)
      have h4_l := hU4.heap h3_l (by simp)
      have h4_h := hU4.heap h3_h (by simp)
      have hV4 := hV3.trans hU4
      clear hU4 hV3 h3_a h3_l h3_h
      go_wp2_with (first
              | (with_reducible refine arm_load (by with_unfolding_all exact rfl) (by assumption) Tryd.underlying23 (by with_unfolding_all exact rfl) (by assumption) ?_)
              | (with_reducible refine arm_load_g (by with_unfolding_all exact rfl) (by with_unfolding_all exact rfl) (by assumption) Tryd.underlying23 (by with_unfolding_all exact rfl) (by assumption) ?_))
      with_reducible refine (HW1.out _).mono ?_
      rintro e w5 ⟨rfl, rfl⟩
      go_wp2_with (first
              | (with_reducible refine arm_load (by with_unfolding_all exact rfl) (by assumption) Tryd.underlying23 (by with_unfolding_all exact rfl) (by assumption) ?_)
              | (with_reducible refine arm_load_g (by with_unfolding_all exact rfl) (by with_unfolding_all exact rfl) (by assumption) Tryd.underlying23 (by with_unfolding_all exact rfl) (by assumption) ?_))
      with_reducible refine (HW2.out _).mono ?_
      rintro e w5 ⟨rfl, rfl⟩
      go_upto_region 5 with (first
              | (with_reducible refine arm_load (by with_unfolding_all exact rfl) (by assumption) Tryd.underlying23 (by with_unfolding_all exact rfl) (by assumption) ?_)
              | (with_reducible refine arm_load_g (by with_unfolding_all exact rfl) (by with_unfolding_all exact rfl) (by assumption) Tryd.underlying23 (by with_unfolding_all exact rfl) (by assumption) ?_))
      go_wp2_with (first
              | (with_reducible refine arm_load (by with_unfolding_all exact rfl) (by assumption) Tryd.underlying23 (by with_unfolding_all exact rfl) (by assumption) ?_)
              | (with_reducible refine arm_load_g (by with_unfolding_all exact rfl) (by with_unfolding_all exact rfl) (by assumption) Tryd.underlying23 (by with_unfolding_all exact rfl) (by assumption) ?_))
      with_reducible refine (K1.out _ (HG.out.upd hV4 (by simp)) (HF.out.upd hV4 (by simp))).mono ?_
      rintro e w5 ⟨rfl, hU5⟩
      have h5_a := hU5.heap h4_a (by simp)
      have h5_l := hU5.heap h4_l (by simp)
      have h5_h := hU5.heap h4_h (by simp)
      have hV5 := hV4.trans hU5
      clear hU5 hV4 h4_a h4_l h4_h
      go_wp2_with (first
              | (with_reducible refine arm_load (by with_unfolding_all exact rfl) (by assumption) Tryd.underlying23 (by with_unfolding_all exact rfl) (by assumption) ?_)
              | (with_reducible refine arm_load_g (by with_unfolding_all exact rfl) (by with_unfolding_all exact rfl) (by assumption) Tryd.underlying23 (by with_unfolding_all exact rfl) (by assumption) ?_))
      with_reducible refine (K2.out _ (HG.out.upd hV5 (by simp)) (HF.out.upd hV5 (by simp))).mono ?_
      rintro e w6 ⟨rfl, hU6⟩
      have h6_a := hU6.heap h5_a (by simp)
      have h6_l := hU6.heap h5_l (by simp)
      have h6_h := hU6.heap h5_h (by simp)
      have hV6 := hV5.trans hU6
      clear hU6 hV5 h5_a h5_l h5_h
      go_wp2_with (first
              | (with_reducible refine arm_load (by with_unfolding_all exact rfl) (by assumption) Tryd.underlying23 (by with_unfolding_all exact rfl) (by assumption) ?_)
              | (with_reducible refine arm_load_g (by with_unfolding_all exact rfl) (by with_unfolding_all exact rfl) (by assumption) Tryd.underlying23 (by with_unfolding_all exact rfl) (by assumption) ?_))
      with_reducible refine (K3.out _ (HG.out.upd hV6 (by simp)) (HF.out.upd hV6 (by simp))).mono ?_
      rintro e w7 ⟨rfl, hU7⟩
      have h7_a := hU7.heap h6_a (by simp)
      have h7_l := hU7.heap h6_l (by simp)
      have h7_h := hU7.heap h6_h (by simp)
      have hV7 := hV6.trans hU7
      clear hU7 hV6 h6_a h6_l h6_h
      go_upto_region 7 with (first
              | (with_reducible refine arm_load (by with_unfolding_all exact rfl) (by assumption) Tryd.underlying23 (by with_unfolding_all exact rfl) (by assumption) ?_)
              | (with_reducible refine arm_load_g (by with_unfolding_all exact rfl) (by with_unfolding_all exact rfl) (by assumption) Tryd.underlying23 (by with_unfolding_all exact rfl) (by assumption) ?_))
      go_wp2_with (first
              | (with_reducible refine arm_load (by with_unfolding_all exact rfl) (by assumption) Tryd.underlying23 (by with_unfolding_all exact rfl) (by assumption) ?_)
              | (with_reducible refine arm_load_g (by with_unfolding_all exact rfl) (by with_unfolding_all exact rfl) (by assumption) Tryd.underlying23 (by with_unfolding_all exact rfl) (by assumption) ?_))
      with_reducible refine (HI.out _ (HG.out.upd hV7 (by simp)) (HF.out.upd hV7 (by simp))).mono ?_
      rintro e w8 ⟨rfl, hU8⟩
      have h8_a := hU8.heap h7_a (by simp)
      have h8_l := hU8.heap h7_l (by simp)
      have h8_h := hU8.heap h7_h (by simp)
      have hV8 := hV7.trans hU8
      clear hU8 hV7 h7_a h7_l h7_h
      go_wp2_with (first
              | (with_reducible refine arm_load (by with_unfolding_all exact rfl) (by assumption) Tryd.underlying23 (by with_unfolding_all exact rfl) (by assumption) ?_)
              | (with_reducible refine arm_load_g (by with_unfolding_all exact rfl) (by with_unfolding_all exact rfl) (by assumption) Tryd.underlying23 (by with_unfolding_all exact rfl) (by assumption) ?_)
              | (with_reducible refine arm_alloc (zero_hash _) ?_))
      intro b9 w9 hb9 hc9 hU9 hz9
      clear hz9
      change w9.heap[b9]? = some (.cells (zrow8 32) 23 (0, 0)) at hc9
      go_wp2_with (first
              | (with_reducible refine arm_load (by with_unfolding_all exact rfl) (by assumption) Tryd.underlying23 (by with_unfolding_all exact rfl) (by assumption) ?_)
              | (with_reducible refine arm_load_g (by with_unfolding_all exact rfl) (by with_unfolding_all exact rfl) (by assumption) Tryd.underlying23 (by with_unfolding_all exact rfl) (by assumption) ?_)
              | (with_reducible refine arm_store (by with_unfolding_all exact rfl) (by with_unfolding_all exact rfl) hc9 hsm hom ham ?_))
      intro w10 h10_m hX10 hz10
      have hU10 := hU9.fresh hb9 hX10
      clear hU9 hc9 hX10 hz10 hb9
      have h10_a := hU10.heap h8_a (by simp)
      have h10_l := hU10.heap h8_l (by simp)
      have h10_h := hU10.heap h8_h (by simp)
      have hV10 := hV8.trans hU10
      clear hU10 hV8 h8_a h8_l h8_h
      go_wp2_with (first
              | (with_reducible refine arm_load (by with_unfolding_all exact rfl) (by assumption) Tryd.underlying23 (by with_unfolding_all exact rfl) (by assumption) ?_)
              | (with_reducible refine arm_load_g (by with_unfolding_all exact rfl) (by with_unfolding_all exact rfl) (by assumption) Tryd.underlying23 (by with_unfolding_all exact rfl) (by assumption) ?_))
      with_reducible refine (K4'.out _ (HG.out.upd hV10 (by simp)) (HF.out.upd hV10 (by simp))).mono ?_
      rintro e w11 ⟨rfl, hU11⟩
      have h11_a := hU11.heap h10_a (by simp)
      have h11_l := hU11.heap h10_l (by simp)
      have h11_h := hU11.heap h10_h (by simp)
      have h11_m := hU11.heap h10_m (by simp)
      have hV11 := hV10.trans hU11
      clear hU11 hV10 h10_a h10_l h10_h h10_m
      go_upto_region 10 with (first
              | (with_reducible refine arm_load (by with_unfolding_all exact rfl) (by assumption) Tryd.underlying23 (by with_unfolding_all exact rfl) (by assumption) ?_)
              | (with_reducible refine arm_load_g (by with_unfolding_all exact rfl) (by with_unfolding_all exact rfl) (by assumption) Tryd.underlying23 (by with_unfolding_all exact rfl) (by assumption) ?_))
      have hQ11_a : Hid (∀ w', Upd [] w11 w' → ∃ t fr, w'.heap[b1]? = some (.cells ca t fr)) := fun w' h => ⟨_, _, h.heap h11_a (by simp)⟩
      have hQ11_h : Hid (∀ w', Upd [] w11 w' → ∃ t fr, w'.heap[b3]? = some (.cells ch t fr)) := fun w' h => ⟨_, _, h.heap h11_h (by simp)⟩
      have hQ11_m : Hid (∀ w', Upd [] w11 w' → ∃ t fr, w'.heap[b9]? = some (.cells cm t fr)) := fun w' h => ⟨_, _, h.heap h11_m (by simp)⟩
      have HG11 := Lib.hid (HG.out.upd hV11 (by simp))
      have HF11 := Lib.hid (HF.out.upd hV11 (by simp))
      refine wp_region_quiet_all (Upd [] w11) (by kernel_rfl) (by kernel_rfl) (Upd.refl _ _).drew ?_
      repeat (first
        | (refine wpQuiet_val rfl (quiet_load_row 23 _ rfl (b1) rfl _ hQ11_a.out Tryd.underlying23 rfl hsa) ?_)
        | (refine wpQuiet_val rfl (quiet_load_row 23 _ rfl (b3) rfl _ hQ11_h.out Tryd.underlying23 rfl hsh) ?_)
        | (refine wpQuiet_val rfl (quiet_load_row 23 _ rfl (b9) rfl _ hQ11_m.out Tryd.underlying23 rfl hsm) ?_)
        | (refine wpQuiet_step (fun K hK => ?_)
           go_simp
           first
             | (refine ⟨_, fun _ _ => rfl, hK _ ?_⟩; clear hK K)
             | ((with_reducible refine ⟨_, fun w2 hw2 => (K3.out w2 (HG11.out.upd hw2 (by simp)) (HF11.out.upd hw2 (by simp))).mono (fun e w' h => ⟨h.1, hw2.trans h.2⟩), hK _ ?_⟩); clear hK K)
             | ((with_reducible refine ⟨_, fun w2 hw2 => (K5'.out w2 (HG11.out.upd hw2 (by simp)) (HF11.out.upd hw2 (by simp))).mono (fun e w' h => ⟨h.1, hw2.trans h.2⟩), hK _ ?_⟩); clear hK K)
             | (refine hK _ ?_; clear hK K)))
      refine wpQuiet_nil ?_
      intro w12 hU12
      clear HG11 HF11 hQ11_a hQ11_h hQ11_m
      have h12_a := hU12.heap h11_a (by simp)
      have h12_l := hU12.heap h11_l (by simp)
      have h12_h := hU12.heap h11_h (by simp)
      have h12_m := hU12.heap h11_m (by simp)
      have hV12 := hV11.trans hU12
      clear hU12 hV11 h11_a h11_l h11_h h11_m
      go_wp2
      go_ret
      exact ⟨rfl, hV12⟩
end Go.Proofs.YtldhjpliknfhiaaDoor
