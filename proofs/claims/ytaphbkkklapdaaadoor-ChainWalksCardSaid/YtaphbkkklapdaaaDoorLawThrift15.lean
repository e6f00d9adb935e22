/-
  The law ChainThrift: a walker tells every value, keeps and steps no more than is promised.
-/
import Derived.Test.YtaphbkkklapdaaaDoorThrifty
import Derived.Test.YtaphbkkklapdaaaDoorAnchor
import Derived.Test.YtaphbkkklapdaaaDoorEqHash
namespace Go.Proofs.YtaphbkkklapdaaaDoor
open Go Go.RowKit Go.Proofs Go.Maps
theorem value_all {seed : List (BitVec 8)} {n i : Nat} (hn1 : 1 ≤ n) (hn : n ≤ 4096) (hi : i ≤ n) : valueOf seed (n : Int) (i : Int) = (steps seed (n - i), true) := by
  have h0 : mayRide (n : Int) = true := by simp [mayRide]; omega
  unfold valueOf
  rw [if_neg (by rw [h0]; simp; omega)]
  unfold iterOf
  rw [if_neg (by omega)]
  congr 1
  congr 1
  omega
set_option maxRecDepth 100000 in
set_option maxHeartbeats 12800000 in
theorem law_thrift15 (w : World) (seed : List (BitVec 8)) (ni : Int) (hsd : seed.length = 32) (hg : Gl256 w) (hf : GlFirst256 w) : Calls Tryd.prog 5 #[.agg (seed.map U8).toArray, .int .i64 ni] w fun e w' => e = .returned (.bool true) ∧ Upd [] w w' := by
  have hss := size_of32 hsd
  have HRD : Hid (∀ (W : World) (b : Nat), W.heap[b]? = some (.cells (seed.map U8).toArray 23 (0, 0)) → RdB W (.slice (some ⟨b, 0, none⟩) 32 32) seed) := fun W b h => rd_row h hsd
  have hl1 := sha256_length seed
  have hq1 := neq_h32 (sha256 seed) (sha256 seed) hl1 hl1
  rw [show (sha256 seed != sha256 seed) = false by simp] at hq1
  have hgd := guard_h32
  have HS1 : Hid (∀ W, Upd [] w W → Calls Tryd.prog 11 #[.agg (seed.map U8).toArray] W fun e w' => e = .returned (.agg ((sha256 seed).map U8).toArray) ∧ Upd [] W w') := fun W hW => step_ W seed hsd (hg.upd hW (by simp)) (hf.upd hW (by simp))
  have HS2 : Hid (∀ (W : World) (b : Nat), Upd [] w W → W.heap[b]? = some (.cells (seed.map U8).toArray 23 (0, 0)) → Calls Tryd.prog 12 #[.slice (some ⟨b, 0, none⟩) 32 32] W fun e w' => e = .returned (.agg ((sha256 seed).map U8).toArray) ∧ Upd [] W w') := fun W b hW hb => sum256 W _ seed (rd_row hb hsd) (by omega) (hg.upd hW (by simp)) (hf.upd hW (by simp))
  have HAN : Hid (∀ W, Upd [] w W → Calls Tryd.prog 13 #[.agg (seed.map U8).toArray, .int .i64 ni] W fun e w' => e = .returned (.tuple #[.agg ((valueOf seed ni 0).1.map U8).toArray, .bool (valueOf seed ni 0).2]) ∧ Upd [] W w') := fun W hW => anchor_ W seed ni hsd (hg.upd hW (by simp)) (hf.upd hW (by simp))
  have HSD := Lib.hid hsd
  have HG := Lib.hid hg
  have HF := Lib.hid hf
  have HGL : Hid (1 < w.heap.size ∧ 0 < w.heap.size) := ⟨hg.lt, hf.lt⟩
  obtain ⟨cs, hcs⟩ : ∃ c, (seed.map U8).toArray = c := ⟨_, rfl⟩
  have HCS := Lib.hid hcs
  rw [hcs] at hss HS1 HS2 HAN ⊢
  obtain ⟨c1, hc1⟩ : ∃ c, ((sha256 seed).map U8).toArray = c := ⟨_, rfl⟩
  rw [hc1] at HS1 HS2 hq1
  clear hcs hc1 hl1 HRD hg hf
  have out : ∀ (P : Prop), P → P := fun _ h => h
  clear out
  by_cases hin : 1 ≤ ni ∧ ni ≤ 4096
  · obtain ⟨n, rfl⟩ : ∃ n : Nat, ni = n := ⟨ni.toNat, by omega⟩
    have hn1 : 1 ≤ n := by omega
    have hn : n ≤ 4096 := by omega
    have i1 : ¬ (n : Int) < 1 := by omega
    have i2 : ¬ (n : Int) > 4096 := by omega
    have i3 : ¬ (4096 : Int) < (n : Int) := by omega
    have hva := value_all (seed := seed) (i := 0) hn1 hn (by omega)
    rw [show ((0 : Nat) : Int) = 0 from rfl] at hva
    rw [hva] at HAN
    have HN : Hid (1 ≤ n ∧ n ≤ 4096) := ⟨hn1, hn⟩
    have hni : (n : Int) ≤ 4096 := by omega
    simp only [Nat.sub_zero] at HAN
    have hal := steps_length seed hsd n
    have hsa := size_of32 hal
    have hoa := same_size32 hal
    have haa := one_of32 (steps seed n)
    obtain ⟨cA, hcA⟩ : ∃ c, ((steps seed n).map U8).toArray = c := ⟨_, rfl⟩
    rw [hcA] at HAN hsa hoa haa
    have HCA := Lib.hid hcA
    clear hin hva hn1 hn hal hcA hsd
    go_enter Tryd.func5, Tryd.ntmps5
    go_wp2_with (with_reducible refine arm_box (by with_unfolding_all exact rfl) ?_)
    intro b1 w1 hb1 h1_s hU1 hz1
    change w1.heap[b1]? = some (.cells cs 23 (0, 0)) at h1_s
    have HB1 : Hid (w.heap.size = b1) := hb1
    have hV1 : Upd [] w w1 := hU1
    have hQ1 : Hid (∀ W, Upd [] w1 W → ∃ t fr, W.heap[b1]? = some (.cells cs t fr)) := fun W h => ⟨_, _, h.heap h1_s (by simp)⟩
    have HS1' : Hid (∀ W, Upd [] w1 W → Calls Tryd.prog 11 #[.agg cs] W fun e w' => e = .returned (.agg c1) ∧ Upd [] W w') := fun W hW => HS1.out W (hV1.trans hW)
    have HS2' : Hid (∀ W, Upd [] w1 W → Calls Tryd.prog 12 #[.slice (some ⟨b1, 0, none⟩) 32 32] W fun e w' => e = .returned (.agg c1) ∧ Upd [] W w') := fun W hW => HS2.out W b1 (hV1.trans hW) (hW.heap h1_s (by simp))
    have H1s := Lib.hid h1_s
    clear hz1 hb1 hU1 h1_s
    go_upto_region 1 with (fail)
    try go_simp
    refine wp_region_quiet_all (Upd [] w1) (by kernel_rfl) (by kernel_rfl) (Upd.refl _ _).drew ?_
    repeat (first
      | (refine wpQuiet_val rfl (quiet_load_row 23 _ rfl b1 rfl _ hQ1.out Tryd.underlying23 rfl hss) ?_)
      | (refine wpQuiet_step (fun K hK => ?_)
         go_simp
         first
           | (refine ⟨_, fun _ _ => rfl, hK _ ?_⟩; clear hK K)
           | ((with_reducible refine ⟨_, fun w2 hw2 => (HS1'.out w2 hw2).mono (fun e w' h => ⟨h.1, hw2.trans h.2⟩), hK _ ?_⟩); clear hK K)
           | ((with_reducible refine ⟨_, fun w2 hw2 => (HS2'.out w2 hw2).mono (fun e w' h => ⟨h.1, hw2.trans h.2⟩), hK _ ?_⟩); clear hK K)
           | (refine hK _ ?_; clear hK K)))
    refine wpQuiet_nil ?_
    intro w2 hU2
    have h2_s := hU2.heap H1s.out (by simp)
    have hV2 := hV1.trans hU2
    clear hU2 hV1 H1s hQ1 HS1' HS2' hq1
    go_upto_region 5 with (fail)
    try go_simp
    have HWK : Hid (∀ W, Upd [] w W → Calls Tryd.prog 6 #[.agg cs, .int .i64 n] W fun e w' => ∃ bw bm bx D, e = .returned (.tuple #[.pointer (some ⟨bw, 0, none⟩), .bool true]) ∧ WalkerAt w' W.heap.size bw bm bx seed n 0 0 [n] D ∧ Upd [] W w') := fun W _ => by
      have := walk_ W seed n HSD.out HN.out.1 HN.out.2
      rwa [HCS.out] at this
    go_wp2_with (with_reducible refine arm_load (by with_unfolding_all exact rfl) h2_s Tryd.underlying23 (by with_unfolding_all exact rfl) hss ?_)
    with_reducible refine (HWK.out _ hV2).mono ?_
    rintro e w3 ⟨bw, bm, bx, D, rfl, hW3, hU3⟩
    obtain ⟨lo, hlo⟩ : ∃ x, w2.heap.size = x := ⟨_, rfl⟩
    rw [hlo] at hW3
    have HLO : Hid (w.heap.size ≤ lo) := by show w.heap.size ≤ lo; have := hV2.size; omega
    have h3_s := hU3.heap h2_s (by simp)
    have hV3 := hV2.trans hU3
    have HB1L : Hid (b1 < lo) := by show b1 < lo; have := lt_of_heap h2_s; omega
    clear h2_s hV2 hU3 hlo
    go_wp2_with (with_reducible refine arm_load (by with_unfolding_all exact rfl) h3_s Tryd.underlying23 (by with_unfolding_all exact rfl) hss ?_)
    with_reducible refine (HAN.out _ hV3).mono ?_
    rintro e w4 ⟨rfl, hU4⟩
    go_wp2_with (with_reducible refine arm_alloc (zero_h32 _) ?_)
    intro b7 w5 hb7 k5 hU5 hz5
    change w5.heap[b7]? = some (.cells (zrow8 32) 23 (0, 0)) at k5
    go_wp2_with (with_reducible refine arm_store (by with_unfolding_all exact rfl) (by with_unfolding_all exact rfl) k5 hsa hoa haa ?_)
    intro w6 k6 hX6 hz6
    have hT6 := hU4.trans (hU5.fresh hb7 hX6)
    have hW6 := hW3.upd hT6 (by simp) (by simp) (by simp)
    have h6_s := hT6.heap h3_s (by simp)
    have hV6 := hV3.trans hT6
    have HTH : Hid (∀ (W : World) (told s calls steps : Nat) (ms : List Nat) (D : DataW Value), WalkerAt W lo bw bm bx seed n told s ms D → Good n s ms → (calls < n → 1 ≤ ms.length) → (calls = 0 ∨ n ≤ s + 1) → steps ≤ s → calls ≤ 100000 → Calls Tryd.prog 10 #[.pointer (some ⟨bw, 0, none⟩), .int .i64 n, .int .i64 calls, .int .i64 steps] W fun e w' => e = .returned (.bool true) ∧ Upd [] W w') := fun W told s calls steps ms D h1 h2 h3 h4 h5 h6 => thrifty_ W lo bw bm bx n told s calls steps seed ms D h1 h2 HN.out.1 HN.out.2 h3 h4 h5 h6
    have HW6 := Lib.hid hW6
    have H6s := Lib.hid h6_s
    have K6 := Lib.hid k6
    have HV6 := Lib.hid hV6
    clear hW3 hT6 hU4 hb7 k5 hU5 hz5 hX6 hz6 h3_s hV3 hW6 h6_s hV6 HS1 HS2 HWK HAN
    have HT0 : Hid (Calls Tryd.prog 10 #[.pointer (some ⟨bw, 0, none⟩), .int .i64 n, .int .i64 0, .int .i64 0] w6 fun e w' => e = .returned (.bool true) ∧ Upd [] w6 w') := HTH.out w6 0 0 0 0 [n] D HW6.out (Good.start n HN.out.1) (fun _ => by simp) (.inl rfl) (by omega) (by omega)
    go_upto_region 7 with (fail)
    try go_simp
    go_wp2_with (fail)
    with_reducible refine HT0.out.mono ?_
    rintro e w7 ⟨rfl, hU7⟩
    have HW7 := Lib.hid (HW6.out.upd hU7 (by simp) (by simp) (by simp))
    have H7s := Lib.hid (hU7.heap H6s.out (by simp))
    have k7 := hU7.heap K6.out (by simp)
    have HV7 := Lib.hid (HV6.out.trans hU7)
    clear HW6 H6s K6 HV6 hU7 HT0 k6
    go_upto_region 9 with (fail)
    try go_simp
    go_wp2_with (first
      | (with_reducible refine arm_load (by with_unfolding_all exact rfl) k7 Tryd.underlying23 (by with_unfolding_all exact rfl) hsa ?_)
      | (with_reducible refine arm_alloc (zero_h32 _) ?_))
    intro b9 w8 hb9 k8 hU8 hz8
    change w8.heap[b9]? = some (.cells (zrow8 32) 23 (0, 0)) at k8
    go_wp2_with (with_reducible refine arm_store (by with_unfolding_all exact rfl) (by with_unfolding_all exact rfl) k8 hsa hoa haa ?_)
    intro w9 k9 hX9 hz9
    have hT9 := hU8.fresh hb9 hX9
    have HW9 := Lib.hid (HW7.out.upd hT9 (by simp) (by simp) (by simp))
    have H9s := Lib.hid (hT9.heap H7s.out (by simp))
    have HV9 := Lib.hid (HV7.out.trans hT9)
    have HB9 : Hid (bw ≠ b9 ∧ bm ≠ b9 ∧ bx ≠ b9 ∧ b1 ≠ b9 ∧ w.heap.size ≤ b9) := by
      have h1 := HW7.out.lt
      have h2 := lt_of_heap H7s.out
      have h3 := HV7.out.size
      exact ⟨by omega, by omega, by omega, by omega, by omega⟩
    rw [← HCA.out] at k9
    have K9 := Lib.hid k9
    clear hb9 k8 hU8 hz8 k9 hX9 hz9 hT9 HW7 H7s HV7 k7 hsa hoa haa
    go_upto_region 11 with (fail)
    go_wp2_with (fail)
    go_loopw [10, 11] (fun sv iv wr => ∃ (told s st : Nat) (ms : List Nat) (D' : DataW Value), iv = .int .i64 ((told + 1 : Nat) : Int) ∧ sv = .int .i64 st ∧ st ≤ s ∧ told ≤ n ∧ ms.sum + told = n ∧ WalkerAt wr lo bw bm bx seed n told s ms D' ∧ Good n s ms ∧ ((told = 0 ∧ ms = [n]) ∨ n ≤ s + 1) ∧ wr.heap[b9]? = some (.cells ((steps seed (n - told)).map U8).toArray 23 (0, 0)) ∧ wr.heap[b1]? = some (.cells cs 23 (0, 0)) ∧ Upd [] w wr) (fun _ iv _ => n + 1 - (intOf iv).toNat)
    case atStart => exact ⟨0, 0, 0, [n], D, rfl, rfl, by omega, by omega, by simp, HW9.out, Good.start n HN.out.1, .inl ⟨rfl, rfl⟩, K9.out, H9s.out, HV9.out⟩
    case round =>
      obtain ⟨told, s, st, ms, D', rfl, rfl, hst, htn, hsum, hW, hgd, hco, k9, hs9, hV⟩ := hrel
      obtain ⟨wo, rfl⟩ : ∃ wo : World, wo = wr := ⟨_, rfl⟩
      have HWo := Lib.hid hW
      have HGD := Lib.hid hgd
      have HCO := Lib.hid hco
      have HSM := Lib.hid hsum
      have HSo := Lib.hid hs9
      have HVo := Lib.hid hV
      have K9o := Lib.hid k9
      have HST : Hid (st ≤ s) := hst
      have hcost := hgd.cost
      have hl12 := lgN_le12 HN.out.2
      have hs49 : s ≤ 30000 := by have := Nat.mul_le_mul HN.out.2 hl12; omega
      have sti : (st : Int) ≤ 30000 := by omega
      have toi : (told : Int) ≤ 4096 := by have := HN.out.2; omega
      rw [show ((told + 1 : Nat) : Int) = (told : Int) + 1 by omega]
      clear hW hgd hco hsum hs9 hV k9 hcost hl12 hs49
      by_cases hlt : told < n
      · have ti : (told : Int) + 1 ≤ (n : Int) := by omega
        have ti2 : ¬ (n : Int) < (told : Int) + 1 := by omega
        obtain ⟨m, r, hms⟩ : ∃ m r, ms = m :: r := by
          cases ms with
          | nil => have := HSM.out; simp at this; omega
          | cons m r => exact ⟨m, r, rfl⟩
        subst hms
        have HNX : Hid (Calls Tryd.prog 8 #[.pointer (some ⟨bw, 0, none⟩)] wo (Told wo lo bw bm bx n told s m seed)) := next_ wo lo bw bm bx n told s m seed r D' HWo.out HGD.out HSM.out HN.out.2 HSD.out (HG.out.upd HVo.out (by simp)) (HF.out.upd HVo.out (by simp)) (by have := HGL.out; have := HLO.out; omega) (by have := HGL.out; have := HLO.out; omega)
        have hvl := steps_length seed HSD.out (n - (told + 1))
        have hsv := size_of32 hvl
        have hov := same_size32 hvl
        have hav := one_of32 (steps seed (n - (told + 1)))
        have hll := steps_length seed HSD.out (n - told)
        have hsl := size_of32 hll
        have hqq := neq_h32 (steps seed (n - told)) (steps seed (n - told)) hll hll
        rw [show (steps seed (n - told) != steps seed (n - told)) = false by simp] at hqq
        have hst1 : sha256 (steps seed (n - (told + 1))) = steps seed (n - told) := by rw [show n - told = (n - (told + 1)) + 1 by omega]; rfl
        have HSV : Hid (∀ W, Upd [] w W → Calls Tryd.prog 11 #[.agg ((steps seed (n - (told + 1))).map U8).toArray] W fun e w' => e = .returned (.agg ((steps seed (n - told)).map U8).toArray) ∧ Upd [] W w') := fun W hW => by rw [← hst1]; exact step_ W _ hvl (HG.out.upd hW (by simp)) (HF.out.upd hW (by simp))
        have hlv : ((steps seed (n - told)).map U8).toArray.size = ((steps seed (n - (told + 1))).map U8).toArray.size := by simp [hvl, hll]
        unfold Told hashV at HNX
        obtain ⟨cv, hcv⟩ : ∃ c, ((steps seed (n - (told + 1))).map U8).toArray = c := ⟨_, rfl⟩
        rw [hcv] at hsv hov hav HSV HNX hlv
        have HCV := Lib.hid hcv
        obtain ⟨cl, hcl⟩ : ∃ c, ((steps seed (n - told)).map U8).toArray = c := ⟨_, rfl⟩
        rw [hcl] at hsl HSV hqq hlv K9o
        clear hcv hcl hvl hll hst1
        have neb : ((((told + 1 : Nat)) : Int) != (told : Int) + 1) = false := by simp
        go_upto_region 14 with (fail)
        try go_simp
        go_wp2_with (fail)
        with_reducible refine HNX.out.mono ?_
        rintro e w2 ⟨rfl, ms', D2, hW2, hG2, hS2, hU2⟩
        have hV2 : Upd [] w w2 := HVo.out.trans' hU2 (fun i hm hl => by have := HLO.out; have := HWo.out.low; simp at hm; omega)
        have hs2 := hU2.heap HSo.out (fun hm => by have h1 := HB9.out; have h2 := HWo.out.low; have h3 := HB1L.out; simp at hm; omega)
        have k92 := hU2.heap K9o.out (fun hm => by have h1 := HB9.out; simp at hm; omega)
        have HW2 := Lib.hid hW2
        have HG2 := Lib.hid hG2
        have HS2 := Lib.hid hS2
        clear hU2 hW2 hG2 hS2 HNX
        go_wp2_with (with_reducible refine arm_alloc (zero_h32 _) ?_)
        intro b13 w3 hb13 k3 hU3 hz3
        change w3.heap[b13]? = some (.cells (zrow8 32) 23 (0, 0)) at k3
        go_wp2_with (with_reducible refine arm_store (by with_unfolding_all exact rfl) (by with_unfolding_all exact rfl) k3 hsv hov hav ?_)
        intro w4 k4 hX4 hz4
        have hT4 := hU3.fresh hb13 hX4
        have hV4 := hV2.trans hT4
        have k94 := hT4.heap k92 (by simp)
        have hs4 := hT4.heap hs2 (by simp)
        have hW4 := HW2.out.upd hT4 (by simp) (by simp) (by simp)
        have hb139 : b9 ≠ b13 := by have := lt_of_heap k92; omega
        have HB13 : Hid (b9 ≠ b13) := hb139
        have HW4 := Lib.hid hW4
        have HS4 := Lib.hid hs4
        have HV4 := Lib.hid hV4
        have K94 := Lib.hid k94
        have K134 := Lib.hid k4
        have HQ13 : Hid (∀ W, Upd [] w4 W → ∃ t fr, W.heap[b13]? = some (.cells cv t fr)) := fun W hW => ⟨_, _, hW.heap K134.out (by simp)⟩
        have HQ9 : Hid (∀ W, Upd [] w4 W → ∃ t fr, W.heap[b9]? = some (.cells cl t fr)) := fun W hW => ⟨_, _, hW.heap K94.out (by simp)⟩
        have HSV4 : Hid (∀ W, Upd [] w4 W → Calls Tryd.prog 11 #[.agg cv] W fun e w' => e = .returned (.agg cl) ∧ Upd [] W w') := fun W hW => HSV.out W (HV4.out.trans hW)
        have HNS : Hid (n ≤ s + (m - 1) + 1) := by
          rcases HCO.out with ⟨h1, h2⟩ | h
          · injection h2 with h2 h3
            show n ≤ s + (m - 1) + 1
            omega
          · show n ≤ s + (m - 1) + 1
            omega
        have HTH4 : Hid (∀ W, Upd [] w4 W → Calls Tryd.prog 10 #[.pointer (some ⟨bw, 0, none⟩), .int .i64 n, .int .i64 ((told : Int) + 1), .int .i64 st] W fun e w' => e = .returned (.bool true) ∧ Upd [] W w') := fun W hW => by
          have := HTH.out W (told + 1) (s + (m - 1)) (told + 1) st ms' D2 (HW4.out.upd hW (by simp) (by simp) (by simp)) HG2.out (fun h => by
            have hs := HS2.out
            cases ms' with
            | nil => simp at hs; omega
            | cons a b => simp) (.inr HNS.out) (by have := HST.out; omega) (by have := HN.out.2; omega)
          rwa [show ((told + 1 : Nat) : Int) = (told : Int) + 1 by omega] at this
        clear hb13 k3 hU3 hz3 k4 hX4 hz4 hT4 k92 hs2 hV2 hV4 k94 hs4 hW4 hb139 HSV
        go_upto_region 15 with (fail)
        try go_simp
        refine wp_region_quiet_all (Upd [] w4) (by kernel_rfl) (by kernel_rfl) (Upd.refl _ _).drew ?_
        refine wpQuiet_step (fun K hK => ?_)
        go_simp
        refine ⟨_, fun _ _ => rfl, hK _ ?_⟩
        clear hK K
        repeat (first
          | go_big_quiet_skip
          | (refine wpQuiet_valK rfl (quiet_load_row 23 _ rfl b13 rfl _ HQ13.out Tryd.underlying23 rfl hsv) (fun K hK => ?_); go_simp; refine hK _ ?_; clear hK K)
          | (refine wpQuiet_valK rfl (quiet_load_row 23 _ rfl b9 rfl _ HQ9.out Tryd.underlying23 rfl hsl) (fun K hK => ?_); go_simp; refine hK _ ?_; clear hK K)
          | go_big_quiet_step ((intro hw2; first
            | rfl
            | ((with_reducible refine (HSV4.out _ hw2).mono ?_); exact fun e w' h => ⟨h.1, hw2.trans h.2⟩)
            | ((with_reducible refine (HTH4.out _ hw2).mono ?_); exact fun e w' h => ⟨h.1, hw2.trans h.2⟩)
            )))
        refine wpQuiet_nil ?_
        intro w5 hU5
        have k135 := hU5.heap K134.out (by simp)
        have k95 := hU5.heap K94.out (by simp)
        have HS5 := Lib.hid (hU5.heap HS4.out (by simp))
        have HW5 := Lib.hid (HW4.out.upd hU5 (by simp) (by simp) (by simp))
        have HV5 := Lib.hid (HV4.out.trans hU5)
        clear hU5 HS4 HW4 HV4 K94 K134 HQ13 HQ9 HSV4 HTH4 hqq
        go_upto_region 17 with (fail)
        try go_simp
        go_wp2_with (first
          | (with_reducible refine arm_load (by with_unfolding_all exact rfl) k135 Tryd.underlying23 (by with_unfolding_all exact rfl) hsv ?_)
          | (with_reducible refine arm_store (by with_unfolding_all exact rfl) (by with_unfolding_all exact rfl) k95 hsv hlv hav ?_))
        intro w6 k96 hX6 hz6
        have hb := HB9.out
        have HW6 := Lib.hid (HW5.out.upd hX6 (fun hm => by have := List.mem_singleton.1 hm; omega) (fun hm => by have := List.mem_singleton.1 hm; omega) (fun hm => by have := List.mem_singleton.1 hm; omega))
        have HS6 := Lib.hid (hX6.heap HS5.out (fun hm => by have := List.mem_singleton.1 hm; omega))
        have HV6 := Lib.hid (HV5.out.trans' hX6 (fun i hm hl => by have := List.mem_singleton.1 hm; omega))
        rw [← HCV.out] at k96
        have K96 := Lib.hid k96
        clear hX6 hz6 hb k96 k135 k95 HS5 HW5 HV5
        have HSP : Hid (Calls Tryd.prog 14 #[.pointer (some ⟨bw, 0, none⟩)] w6 fun e w' => e = .returned (.int .i64 ((s + (m - 1) : Nat) : Int)) ∧ Upd [] w6 w') := steps_ w6 lo bw bm bx n (told + 1) (s + (m - 1)) seed ms' D2 HW6.out
        go_wp2_with (fail)
        with_reducible refine HSP.out.mono ?_
        rintro e w7 ⟨rfl, hU7⟩
        have HW7 := Lib.hid (HW6.out.upd hU7 (by simp) (by simp) (by simp))
        have HS7 := Lib.hid (hU7.heap HS6.out (by simp))
        have HV7 := Lib.hid (HV6.out.trans hU7)
        have K97 := Lib.hid (hU7.heap K96.out (by simp))
        clear hU7 HW6 HS6 HV6 K96 HSP
        go_wp2_with (fail)
        go_roundw
        case rel => exact ⟨told + 1, s + (m - 1), s + (m - 1), ms', D2, by go_num, rfl, Nat.le_refl _, by omega, HS2.out, HW7.out, HG2.out, .inr HNS.out, K97.out, HS7.out, HV7.out⟩
        case measure => simp [intOf]; omega
      · have hte : told = n := by omega
        subst hte
        have ti : ¬ (told : Int) + 1 ≤ (told : Int) := by omega
        have ti2 : (told : Int) < (told : Int) + 1 := by omega
        have hm0 : ms = [] := by
          have hp := HGD.out.pos
          have hs := HSM.out
          cases ms with
          | nil => rfl
          | cons a b => have := hp a (by simp); simp at hs; omega
        subst hm0
        have HND : Hid (Calls Tryd.prog 8 #[.pointer (some ⟨bw, 0, none⟩)] wo fun e w' => e = .returned (.tuple #[.int .i64 0, .agg (zrow8 32), .bool false]) ∧ Upd [] wo w') := next_done wo lo bw bm bx told s seed [] D' HWo.out
        have hqs := eql_h32 seed seed HSD.out HSD.out
        rw [show (seed == seed) = true by simp, HCS.out] at hqs
        have hsm0 : steps seed (told - told) = seed := by rw [Nat.sub_self]; rfl
        have k9o := K9o.out
        rw [hsm0, HCS.out] at k9o
        have hso := HSo.out
        have HTE : Hid (∀ W, Upd [] wo W → Calls Tryd.prog 10 #[.pointer (some ⟨bw, 0, none⟩), .int .i64 told, .int .i64 ((told : Int) + 1), .int .i64 st] W fun e w' => e = .returned (.bool true) ∧ Upd [] W w') := fun W hW => by
          have := HTH.out W told s (told + 1) st [] D' (HWo.out.upd hW (by simp) (by simp) (by simp)) HGD.out (fun h => by omega) (by
            rcases HCO.out with ⟨h1, h2⟩ | h
            · cases h2
            · exact .inr h) HST.out (by have := HN.out.2; omega)
          rwa [show ((told + 1 : Nat) : Int) = (told : Int) + 1 by omega] at this
        clear hsm0 hlt
        go_upto_region 19 with (fail)
        try go_simp
        go_wp2_with (fail)
        with_reducible refine HND.out.mono ?_
        rintro e w2 ⟨rfl, hU2⟩
        have k92 := hU2.heap k9o (by simp)
        have hs2 := hU2.heap hso (by simp)
        go_wp2_with (with_reducible refine arm_alloc (zero_h32 _) ?_)
        intro b16 w3 hb16 k3 hU3 hz3
        change w3.heap[b16]? = some (.cells (zrow8 32) 23 (0, 0)) at k3
        go_wp2_with (with_reducible refine arm_store (by with_unfolding_all exact rfl) (by with_unfolding_all exact rfl) k3 size_zrow32 (by with_unfolding_all exact rfl) one_zrow32 ?_)
        intro w4 k4 hX4 hz4
        have hT4 := hU3.fresh hb16 hX4
        have k94 := hT4.heap k92 (by simp)
        have hs4 := hT4.heap hs2 (by simp)
        have hT := hU2.trans hT4
        clear k9o hso k92 hs2 hU2 hb16 k3 hU3 hz3 k4 hX4 hz4 hT4
        go_wp2_with (first
          | (with_reducible refine arm_load_g (by with_unfolding_all exact rfl) (by with_unfolding_all exact rfl) k94 Tryd.underlying23 (by with_unfolding_all exact rfl) hss ?_)
          | (with_reducible refine arm_load_g (by with_unfolding_all exact rfl) (by with_unfolding_all exact rfl) hs4 Tryd.underlying23 (by with_unfolding_all exact rfl) hss ?_))
        with_reducible refine (HTE.out _ hT).mono ?_
        rintro e w5 ⟨rfl, hU5⟩
        go_wp2_with (fail)
        go_ret
        exact ⟨rfl, HVo.out.trans (hT.trans hU5)⟩
  · by_cases h1 : ni < 1
    · clear hin
      go_enter Tryd.func5, Tryd.ntmps5
      go_wp2_with (with_reducible refine arm_box (by with_unfolding_all exact rfl) ?_)
      intro b1 w1 hb1 h1_s hU1 hz1
      change w1.heap[b1]? = some (.cells cs 23 (0, 0)) at h1_s
      have HB1 : Hid (w.heap.size = b1) := hb1
      have hV1 : Upd [] w w1 := hU1
      have hQ1 : Hid (∀ W, Upd [] w1 W → ∃ t fr, W.heap[b1]? = some (.cells cs t fr)) := fun W h => ⟨_, _, h.heap h1_s (by simp)⟩
      have HS1' : Hid (∀ W, Upd [] w1 W → Calls Tryd.prog 11 #[.agg cs] W fun e w' => e = .returned (.agg c1) ∧ Upd [] W w') := fun W hW => HS1.out W (hV1.trans hW)
      have HS2' : Hid (∀ W, Upd [] w1 W → Calls Tryd.prog 12 #[.slice (some ⟨b1, 0, none⟩) 32 32] W fun e w' => e = .returned (.agg c1) ∧ Upd [] W w') := fun W hW => HS2.out W b1 (hV1.trans hW) (hW.heap h1_s (by simp))
      have H1s := Lib.hid h1_s
      clear hz1 hb1 hU1 h1_s
      go_upto_region 1 with (fail)
      try go_simp
      refine wp_region_quiet_all (Upd [] w1) (by kernel_rfl) (by kernel_rfl) (Upd.refl _ _).drew ?_
      repeat (first
        | (refine wpQuiet_val rfl (quiet_load_row 23 _ rfl b1 rfl _ hQ1.out Tryd.underlying23 rfl hss) ?_)
        | (refine wpQuiet_step (fun K hK => ?_)
           go_simp
           first
             | (refine ⟨_, fun _ _ => rfl, hK _ ?_⟩; clear hK K)
             | ((with_reducible refine ⟨_, fun w2 hw2 => (HS1'.out w2 hw2).mono (fun e w' h => ⟨h.1, hw2.trans h.2⟩), hK _ ?_⟩); clear hK K)
             | ((with_reducible refine ⟨_, fun w2 hw2 => (HS2'.out w2 hw2).mono (fun e w' h => ⟨h.1, hw2.trans h.2⟩), hK _ ?_⟩); clear hK K)
             | (refine hK _ ?_; clear hK K)))
      refine wpQuiet_nil ?_
      intro w2 hU2
      have h2_s := hU2.heap H1s.out (by simp)
      have hV2 := hV1.trans hU2
      clear hU2 hV1 H1s hQ1 HS1' HS2' hq1
      go_wp2_with (fail)
      go_ret
      exact ⟨rfl, hV2⟩
    · have h4 : ni > 4096 := by omega
      have h5 : (4096 : Int) < ni := by omega
      clear hin
      go_enter Tryd.func5, Tryd.ntmps5
      go_wp2_with (with_reducible refine arm_box (by with_unfolding_all exact rfl) ?_)
      intro b1 w1 hb1 h1_s hU1 hz1
      change w1.heap[b1]? = some (.cells cs 23 (0, 0)) at h1_s
      have HB1 : Hid (w.heap.size = b1) := hb1
      have hV1 : Upd [] w w1 := hU1
      have hQ1 : Hid (∀ W, Upd [] w1 W → ∃ t fr, W.heap[b1]? = some (.cells cs t fr)) := fun W h => ⟨_, _, h.heap h1_s (by simp)⟩
      have HS1' : Hid (∀ W, Upd [] w1 W → Calls Tryd.prog 11 #[.agg cs] W fun e w' => e = .returned (.agg c1) ∧ Upd [] W w') := fun W hW => HS1.out W (hV1.trans hW)
      have HS2' : Hid (∀ W, Upd [] w1 W → Calls Tryd.prog 12 #[.slice (some ⟨b1, 0, none⟩) 32 32] W fun e w' => e = .returned (.agg c1) ∧ Upd [] W w') := fun W hW => HS2.out W b1 (hV1.trans hW) (hW.heap h1_s (by simp))
      have H1s := Lib.hid h1_s
      clear hz1 hb1 hU1 h1_s
      go_upto_region 1 with (fail)
      try go_simp
      refine wp_region_quiet_all (Upd [] w1) (by kernel_rfl) (by kernel_rfl) (Upd.refl _ _).drew ?_
      repeat (first
        | (refine wpQuiet_val rfl (quiet_load_row 23 _ rfl b1 rfl _ hQ1.out Tryd.underlying23 rfl hss) ?_)
        | (refine wpQuiet_step (fun K hK => ?_)
           go_simp
           first
             | (refine ⟨_, fun _ _ => rfl, hK _ ?_⟩; clear hK K)
             | ((with_reducible refine ⟨_, fun w2 hw2 => (HS1'.out w2 hw2).mono (fun e w' h => ⟨h.1, hw2.trans h.2⟩), hK _ ?_⟩); clear hK K)
             | ((with_reducible refine ⟨_, fun w2 hw2 => (HS2'.out w2 hw2).mono (fun e w' h => ⟨h.1, hw2.trans h.2⟩), hK _ ?_⟩); clear hK K)
             | (refine hK _ ?_; clear hK K)))
      refine wpQuiet_nil ?_
      intro w2 hU2
      have h2_s := hU2.heap H1s.out (by simp)
      have hV2 := hV1.trans hU2
      clear hU2 hV1 H1s hQ1 HS1' HS2' hq1
      go_wp2_with (fail)
      go_ret
      exact ⟨rfl, hV2⟩
end Go.Proofs.YtaphbkkklapdaaaDoor
