/-
  The law ChainWalks: every Next of every walker.
-/
import Derived.Test.YtaphbkkklapdaaaDoorRefValues
namespace Go.Proofs.YtaphbkkklapdaaaDoor
open Go Go.RowKit Go.Proofs Go.Maps
set_option maxRecDepth 100000 in
theorem walks_bad (w : World) (cs : Array Value) (n calls : Int) (hs : (Tryd.prog.info? 23).map (·.size) = some cs.size) (hn : mayRide n = false) :
    Calls Tryd.prog 3 #[.agg cs, .int .i64 n, .int .i64 calls] w fun e w' => e = .returned (.bool true) ∧ Upd [] w w' := by
  have HWB : Hid (∀ W, Calls Tryd.prog 6 #[.agg cs, .int .i64 n] W fun e w' => e = .returned (.tuple #[.pointer none, .bool false]) ∧ Upd [] W w') := fun W => walk_bad W cs n hn
  have hcond : n < 1 ∨ n > 4096 := by
    unfold mayRide at hn
    simp at hn
    omega
  clear hn
  by_cases h1 : n < 1
  · clear hcond
    go_enter Tryd.func3, Tryd.ntmps3
    go_wp2_with (with_reducible refine arm_box (by with_unfolding_all exact rfl) ?_)
    intro b3 w1 hb3 k1 hU1 hz1
    change w1.heap[b3]? = some (.cells cs 23 (0, 0)) at k1
    clear hb3 hz1
    go_wp2_with (with_reducible refine arm_load (by with_unfolding_all exact rfl) k1 Tryd.underlying23 (by with_unfolding_all exact rfl) hs ?_)
    with_reducible refine (HWB.out _).mono ?_
    rintro e w2 ⟨rfl, hU2⟩
    go_wp2_with (fail)
    go_ret
    exact ⟨rfl, hU1.trans hU2⟩
  · have h2 : n > 4096 := by omega
    have h3 : (4096 : Int) < n := by omega
    clear hcond
    go_enter Tryd.func3, Tryd.ntmps3
    go_wp2_with (with_reducible refine arm_box (by with_unfolding_all exact rfl) ?_)
    intro b3 w1 hb3 k1 hU1 hz1
    change w1.heap[b3]? = some (.cells cs 23 (0, 0)) at k1
    clear hb3 hz1
    go_wp2_with (with_reducible refine arm_load (by with_unfolding_all exact rfl) k1 Tryd.underlying23 (by with_unfolding_all exact rfl) hs ?_)
    with_reducible refine (HWB.out _).mono ?_
    rintro e w2 ⟨rfl, hU2⟩
    go_wp2_with (fail)
    go_ret
    exact ⟨rfl, hU1.trans hU2⟩
set_option maxRecDepth 100000 in
set_option maxHeartbeats 12800000 in
theorem law_walks15 (w : World) (seed : List (BitVec 8)) (ni calls : Int) (hsd : seed.length = 32) (hg : Gl256 w) (hf : GlFirst256 w) :
    Calls Tryd.prog 3 #[.agg (seed.map U8).toArray, .int .i64 ni, .int .i64 calls] w fun e w' => e = .returned (.bool true) ∧ Upd [] w w' := by
  have hss := size_of32 hsd
  by_cases hin : mayRide ni = false
  · exact walks_bad w _ ni calls hss hin
  have hn1' : 1 ≤ ni ∧ ni ≤ 4096 := by
    unfold mayRide at hin
    simp at hin
    exact hin
  obtain ⟨n, rfl⟩ : ∃ n : Nat, ni = n := ⟨ni.toNat, by omega⟩
  have f1 : ¬ (n : Int) < 1 := by omega
  have f2 : ¬ (n : Int) > 4096 := by omega
  have f2' : ¬ (4096 : Int) < (n : Int) := by omega
  have hni : (n : Int) ≤ 4096 := by omega
  have HN : Hid (1 ≤ n ∧ n ≤ 4096) := ⟨by omega, by omega⟩
  have HSD := Lib.hid hsd
  have HG := Lib.hid hg
  have HF := Lib.hid hf
  have HGL : Hid (1 < w.heap.size ∧ 0 < w.heap.size) := ⟨hg.lt, hf.lt⟩
  have HWX : Hid (∀ W, Calls Tryd.prog 6 #[.agg (seed.map U8).toArray, .int .i64 n] W fun e w' => ∃ bw bm bx, e = .returned (.tuple #[.pointer (some ⟨bw, 0, none⟩), .bool true]) ∧ WS w' W.heap.size bw bm bx seed n 0 ∧ Upd [] W w') := fun W => walkW W seed n hsd HN.out.1 HN.out.2
  have HRV : Hid (∀ W, Calls Tryd.prog 7 #[.agg (seed.map U8).toArray, .int .i64 n] W fun e w' => ∃ (g c : Nat) (ls : List H8), e = .returned (.slice (some ⟨g, 0, none⟩) (n + 1) c) ∧ ls.length = n + 1 ∧ (∀ i (h : i < ls.length), ls[i] = steps seed (n - i)) ∧ RdH w' (.slice (some ⟨g, 0, none⟩) (n + 1) c) ls ∧ W.heap.size ≤ g ∧ Upd [] W w') := fun W => refvalues_ W seed n hsd HN.out.2
  have hgd := guard_h32
  have hb0 : Tryd.prog.built 23 [] = some (zrow8 32) := by kernel_rfl
  obtain ⟨cs, hcs⟩ : ∃ c, (seed.map U8).toArray = c := ⟨_, rfl⟩
  rw [hcs] at hss HWX HRV ⊢
  clear hcs hg hf hin hn1' hsd
  go_enter Tryd.func3, Tryd.ntmps3
  go_wp2_with (with_reducible refine arm_box (by with_unfolding_all exact rfl) ?_)
  intro b3 w1 hb3 k1 hU1 hz1
  change w1.heap[b3]? = some (.cells cs 23 (0, 0)) at k1
  clear hb3 hz1
  go_wp2_with (with_reducible refine arm_load (by with_unfolding_all exact rfl) k1 Tryd.underlying23 (by with_unfolding_all exact rfl) hss ?_)
  with_reducible refine (HWX.out _).mono ?_
  rintro e w2 ⟨xw, xm, xx, rfl, hX2, hU2⟩
  obtain ⟨lo, hlo⟩ : ∃ x, w1.heap.size = x := ⟨_, rfl⟩
  rw [hlo] at hX2
  have HLO : Hid (w.heap.size ≤ lo) := by show w.heap.size ≤ lo; have := hU1.size; omega
  have k2 := hU2.heap k1 (by simp)
  have hV2 := hU1.trans hU2
  clear hU1 hU2 k1 hlo
  go_upto_region 6 with (fail)
  try go_simp
  go_wp2_with (with_reducible refine arm_load (by with_unfolding_all exact rfl) k2 Tryd.underlying23 (by with_unfolding_all exact rfl) hss ?_)
  with_reducible refine (HRV.out _).mono ?_
  rintro e w3 ⟨g, c, ls, rfl, hll, hel, hR3, hgg, hU3⟩
  have HX3 := Lib.hid (hX2.upd hU3 (by simp) (by simp) (by simp))
  have HV3 := Lib.hid (hV2.trans hU3)
  have HR3 := Lib.hid hR3
  have HLL := Lib.hid hll
  have HEL := Lib.hid hel
  have HGX : Hid (xw ≠ g ∧ xm ≠ g) := by
    have h1 := hX2.lt
    exact ⟨by omega, by omega⟩
  clear hX2 hV2 hU3 hR3 hll hel k2 HRV HWX hgg
  go_upto_region 7 with (fail)
  go_wp2_with (fail)
  go_loopw [10] (fun iv wr => ∃ x : Nat, 1 ≤ x ∧ x ≤ n + 4 ∧ iv = .int .i64 x ∧ WS wr lo xw xm xx seed n (x - 1) ∧ RdH wr (.slice (some ⟨g, 0, none⟩) (n + 1) c) ls ∧ Upd [] w wr) (fun iv _ => n + 4 - (intOf iv).toNat)
  case atStart => exact ⟨1, by omega, by omega, rfl, HX3.out, HR3.out, HV3.out⟩
  case round =>
    obtain ⟨x, hx1, hx4, rfl, hX, hR, hV⟩ := hrel
    obtain ⟨wo, rfl⟩ : ∃ wo : World, wo = wr := ⟨_, rfl⟩
    have HX := Lib.hid hX
    have HR := Lib.hid hR
    have HV := Lib.hid hV
    have HXB : Hid (1 ≤ x ∧ x ≤ n + 4) := ⟨hx1, hx4⟩
    have xi : (x : Int) ≤ 5000 := by have := HN.out; omega
    clear hX hR hV hx1 hx4
    by_cases hc : (x : Int) ≤ calls
    · have hc' : ¬ calls < (x : Int) := by omega
      by_cases hx3 : x ≤ n + 3
      · have x3 : (x : Int) ≤ (n : Int) + 3 := by omega
        have x3' : ¬ (n : Int) + 3 < (x : Int) := by omega
        have HX3 : Hid (x ≤ n + 3) := hx3
        have hnx := nextW wo lo xw xm xx n (x - 1) seed HX.out HN.out.1 HN.out.2 HSD.out (HG.out.upd HV.out (by simp)) (HF.out.upd HV.out (by simp)) (by have := HGL.out; have := HLO.out; omega) (by have := HGL.out; have := HLO.out; omega)
        rw [show x - 1 + 1 = x by have := HXB.out; omega] at hnx
        clear hx3
        by_cases hxn : x ≤ n
        · rw [value_all HN.out.1 HN.out.2 hxn] at hnx
          have xn : ¬ (x : Int) > (n : Int) := by omega
          have xn' : ¬ (n : Int) < (x : Int) := by omega
          have HXN : Hid (x ≤ n) := hxn
          have hvl := steps_length seed HSD.out (n - x)
          have hsv := size_of32 hvl
          have hsv2 := hvl
          have hov := same_size32 hvl
          have hav := one_of32 (steps seed (n - x))
          have hqq := neq_h32 (steps seed (n - x)) (steps seed (n - x)) hvl hvl
          rw [show (steps seed (n - x) != steps seed (n - x)) = false by simp] at hqq
          have hsl : (Tryd.prog.info? 23).map (·.size) = some ((steps seed (n - x)).map U8).length := by rw [List.length_map, hvl]; kernel_rfl
          obtain ⟨cv, hcv⟩ : ∃ c, (steps seed (n - x)).map U8 = c := ⟨_, rfl⟩
          have HCV := Lib.hid hcv
          rw [hcv] at hsv hov hav hqq hsl hnx
          have HNX := Lib.hid hnx
          clear hvl hcv hnx hsv2 hxn
          go_upto_region 10 with (fail)
          try go_simp
          go_wp2_with (fail)
          with_reducible refine HNX.out.mono ?_
          rintro e w2 ⟨idx, rfl, hidx, hX2, hU2, hidx0⟩
          have hix := hidx (by simp)
          subst hix
          have HX2 := Lib.hid hX2
          have HR2 := Lib.hid (HR.out.upd hU2 (fun _ k hk hm => by have := HGX.out; simp [Value.ownBlock] at hk; simp at hm; omega))
          have HV2 := Lib.hid (HV.out.trans' hU2 (fun i hm hl => by have := HX.out.lt; have := HLO.out; simp at hm; omega))
          clear hidx hX2 hU2 hidx0 HNX
          go_wp2_with (with_reducible refine arm_alloc (zero_h32 _) ?_)
          intro b12 w3 hb12 k3 hU3 hz3
          change w3.heap[b12]? = some (.cells (zrow8 32) 23 (0, 0)) at k3
          go_wp2_with (with_reducible refine arm_store (by with_unfolding_all exact rfl) (by with_unfolding_all exact rfl) k3 hsv hov hav ?_)
          intro w4 k4 hX4 hz4
          have hT4 := hU3.fresh hb12 hX4
          have HX4 := Lib.hid (HX2.out.upd hT4 (by simp) (by simp) (by simp))
          have HR4 := Lib.hid (HR2.out.upd0 hT4)
          have HV4 := Lib.hid (HV2.out.trans hT4)
          have K4 := Lib.hid k4
          have HQ12 : Hid (∀ W, Upd [] w4 W → ∃ t fr, W.heap[b12]? = some (.cells cv.toArray t fr)) := fun W hW => ⟨_, _, hW.heap K4.out (by simp)⟩
          have HQL : Hid (∀ W, Upd [] w4 W → W.rangeAt g (x * 32) cv) := fun W hW => by
            have hxl : x < ls.length := by have := HLL.out; have := HXN.out; omega
            have := (HR4.out.upd0 hW).elem x hxl
            rwa [HEL.out x hxl, HCV.out, Nat.zero_add] at this
          have xb : (x : Int) < (n : Int) + 1 := by omega
          have neb : ((x : Int) != (x : Int)) = false := by simp
          clear hb12 k3 hU3 hz3 k4 hX4 hz4 hT4
          go_upto_region 14 with (fail)
          try go_simp
          refine wp_region_quiet_all (Upd [] w4) (by kernel_rfl) (by kernel_rfl) (Upd.refl _ _).drew ?_
          refine wpQuiet_step (fun K hK => ?_)
          go_simp
          refine ⟨_, fun _ _ => rfl, hK _ ?_⟩
          clear hK K
          repeat (first
            | go_big_quiet_skip
            | (refine wpQuiet_valK rfl (quiet_load_row 23 _ rfl b12 rfl _ HQ12.out Tryd.underlying23 rfl hsv) (fun K hK => ?_); go_simp; refine hK _ ?_; clear hK K)
            | (refine wpQuiet_valK rfl (quiet_load_mid 23 _ rfl g (x * 32) rfl _ HQL.out Tryd.underlying23 rfl hsl) (fun K hK => ?_); go_simp; refine hK _ ?_; clear hK K)
            | go_big_quiet_step ((intro hw2; rfl)))
          refine wpQuiet_nil ?_
          intro w5 hU5
          have HX5 := Lib.hid (HX4.out.upd hU5 (by simp) (by simp) (by simp))
          have HR5 := Lib.hid (HR4.out.upd0 hU5)
          have HV5 := Lib.hid (HV4.out.trans hU5)
          clear hU5 HQ12 HQL
          go_wp2_with (fail)
          go_roundw
          case rel => exact ⟨x + 1, by omega, by have := HX3.out; omega, by go_num, by rw [Nat.add_sub_cancel]; exact HX5.out, HR5.out, HV5.out⟩
          case measure => have := HX3.out; simp [intOf]; omega
        · rw [value_over (by omega), ← zrow_h32] at hnx
          have xn : (x : Int) > (n : Int) := by omega
          have xn' : (n : Int) < (x : Int) := by omega
          have hqz := neq_h32 (List.replicate 32 0) (List.replicate 32 0) (by simp) (by simp)
          rw [show ((List.replicate 32 (0 : BitVec 8)) != List.replicate 32 0) = false by simp, ← zrow_h32] at hqz
          have HNX := Lib.hid hnx
          clear hnx hxn
          go_upto_region 10 with (fail)
          try go_simp
          go_wp2_with (fail)
          with_reducible refine HNX.out.mono ?_
          rintro e w2 ⟨idx, rfl, hidx, hX2, hU2, hidx0⟩
          have hix := hidx0 (by simp)
          subst hix
          have HX2 := Lib.hid hX2
          have HR2 := Lib.hid (HR.out.upd hU2 (fun _ k hk hm => by have := HGX.out; simp [Value.ownBlock] at hk; simp at hm; omega))
          have HV2 := Lib.hid (HV.out.trans' hU2 (fun i hm hl => by have := HX.out.lt; have := HLO.out; simp at hm; omega))
          clear hidx hX2 hU2 hidx0 HNX
          go_wp2_with (with_reducible refine arm_alloc (zero_h32 _) ?_)
          intro b12 w3 hb12 k3 hU3 hz3
          change w3.heap[b12]? = some (.cells (zrow8 32) 23 (0, 0)) at k3
          go_wp2_with (with_reducible refine arm_store (by with_unfolding_all exact rfl) (by with_unfolding_all exact rfl) k3 size_zrow32 (by with_unfolding_all exact rfl) one_zrow32 ?_)
          intro w4 k4 hX4 hz4
          have hT4 := hU3.fresh hb12 hX4
          have HX4 := Lib.hid (HX2.out.upd hT4 (by simp) (by simp) (by simp))
          have HR4 := Lib.hid (HR2.out.upd0 hT4)
          have HV4 := Lib.hid (HV2.out.trans hT4)
          clear hb12 k3 hU3 hz3 hX4 hz4 hT4
          go_upto_region 12 with (fail)
          try go_simp
          go_wp2_with (first
            | (with_reducible refine arm_load_g (by with_unfolding_all exact rfl) (by with_unfolding_all exact rfl) k4 Tryd.underlying23 (by with_unfolding_all exact rfl) size_zrow32 ?_)
            | (with_reducible refine arm_build0_g (by with_unfolding_all exact rfl) hb0 ?_))
          go_roundw
          case rel => exact ⟨x + 1, by omega, by have := HX3.out; omega, by go_num, by rw [Nat.add_sub_cancel]; exact HX4.out, HR4.out, HV4.out⟩
          case measure => have := HX3.out; simp [intOf]; omega
      · have x3 : ¬ (x : Int) ≤ (n : Int) + 3 := by omega
        have x3' : (n : Int) + 3 < (x : Int) := by omega
        go_wp2_with (fail)
        go_ret
        exact ⟨rfl, HV.out⟩
    · have hc' : calls < (x : Int) := by omega
      go_wp2_with (fail)
      go_ret
      exact ⟨rfl, HV.out⟩
end Go.Proofs.YtaphbkkklapdaaaDoor
