/-
  The law ChainWalkersApart: two walkers, gone on with in turns, do not know of one another.
-/
import Derived.Test.YtaphbkkklapdaaaDoorWS
namespace Go.Proofs.YtaphbkkklapdaaaDoor
open Go Go.RowKit Go.Proofs Go.Maps
/-- a row of bools that can be read -/
def RdL (w : World) (v : Value) (ls : List Bool) : Prop := ∃ A c, v = .slice A ls.length c ∧ (0 < ls.length → ∃ g p, A = some ⟨g, p, none⟩ ∧ ∀ i (h : i < ls.length), w.cell? ⟨g, p + i, none⟩ = some (.bool ls[i]))
set_option maxRecDepth 100000 in
theorem apart_bad (w : World) (ca cb : Array Value) (n m : Int) (A : Option Addr) (L c : Nat) (h : ¬ (1 ≤ n ∧ n ≤ 300 ∧ 1 ≤ m ∧ m ≤ 300 ∧ L ≤ 1000)) :
    Calls Tryd.prog 4 #[.agg ca, .int .i64 n, .agg cb, .int .i64 m, .slice A L c] w fun e w' => e = .returned (.bool true) ∧ Upd [] w w' := by
  have go : ∀ (_ : True), True := fun _ => trivial
  clear go
  by_cases h1 : n < 1
  · clear h
    go_enter Tryd.func4, Tryd.ntmps4
    go_wp2_with (with_reducible refine arm_box (by with_unfolding_all exact rfl) ?_)
    intro b5 w1 hb5 k5 hU1 hz1
    go_wp2_with (with_reducible refine arm_box (by with_unfolding_all exact rfl) ?_)
    intro b7 w2 hb7 k7 hU2 hz2
    have hV2 := hU1.trans hU2
    clear k5 hU1 hz1 hU2 hz2 hb5 hb7 k7
    go_wp2_with (fail)
    go_ret
    exact ⟨rfl, hV2⟩
  have g1 : decide (n < 1) = false := by simp; omega
  by_cases h2 : n > 300
  · clear h
    have h2' : (300 : Int) < n := h2
    go_enter Tryd.func4, Tryd.ntmps4
    go_wp2_with (with_reducible refine arm_box (by with_unfolding_all exact rfl) ?_)
    intro b5 w1 hb5 k5 hU1 hz1
    go_wp2_with (with_reducible refine arm_box (by with_unfolding_all exact rfl) ?_)
    intro b7 w2 hb7 k7 hU2 hz2
    have hV2 := hU1.trans hU2
    clear k5 hU1 hz1 hU2 hz2 hb5 hb7 k7
    go_wp2_with (fail)
    go_ret
    exact ⟨rfl, hV2⟩
  have g2 : decide (n > 300) = false := by simp; omega
  have g2' : decide ((300 : Int) < n) = false := by simp; omega
  by_cases h3 : m < 1
  · clear h
    go_enter Tryd.func4, Tryd.ntmps4
    go_wp2_with (with_reducible refine arm_box (by with_unfolding_all exact rfl) ?_)
    intro b5 w1 hb5 k5 hU1 hz1
    go_wp2_with (with_reducible refine arm_box (by with_unfolding_all exact rfl) ?_)
    intro b7 w2 hb7 k7 hU2 hz2
    have hV2 := hU1.trans hU2
    clear k5 hU1 hz1 hU2 hz2 hb5 hb7 k7
    go_wp2_with (fail)
    go_ret
    exact ⟨rfl, hV2⟩
  have g3 : decide (m < 1) = false := by simp; omega
  by_cases h4 : m > 300
  · clear h
    have h4' : (300 : Int) < m := h4
    go_enter Tryd.func4, Tryd.ntmps4
    go_wp2_with (with_reducible refine arm_box (by with_unfolding_all exact rfl) ?_)
    intro b5 w1 hb5 k5 hU1 hz1
    go_wp2_with (with_reducible refine arm_box (by with_unfolding_all exact rfl) ?_)
    intro b7 w2 hb7 k7 hU2 hz2
    have hV2 := hU1.trans hU2
    clear k5 hU1 hz1 hU2 hz2 hb5 hb7 k7
    go_wp2_with (fail)
    go_ret
    exact ⟨rfl, hV2⟩
  have g4 : decide (m > 300) = false := by simp; omega
  have g4' : decide ((300 : Int) < m) = false := by simp; omega
  have h5 : (L : Int) > 1000 := by omega
  have h5' : (1000 : Int) < (L : Int) := h5
  clear h
  go_enter Tryd.func4, Tryd.ntmps4
  go_wp2_with (with_reducible refine arm_box (by with_unfolding_all exact rfl) ?_)
  intro b5 w1 hb5 k5 hU1 hz1
  go_wp2_with (with_reducible refine arm_box (by with_unfolding_all exact rfl) ?_)
  intro b7 w2 hb7 k7 hU2 hz2
  have hV2 := hU1.trans hU2
  clear k5 hU1 hz1 hU2 hz2 hb5 hb7 k7
  go_wp2_with (fail)
  go_ret
  exact ⟨rfl, hV2⟩
set_option maxRecDepth 100000 in
set_option maxHeartbeats 25600000 in
theorem law_apart15 (w : World) (v : Value) (sa sb : List (BitVec 8)) (ni mi : Int) (ts : List Bool) (hsa : sa.length = 32) (hsb : sb.length = 32) (hv : RdL w v ts) (hg : Gl256 w) (hf : GlFirst256 w) :
    Calls Tryd.prog 4 #[.agg (sa.map U8).toArray, .int .i64 ni, .agg (sb.map U8).toArray, .int .i64 mi, v] w fun e w' => e = .returned (.bool true) ∧ Upd [] w w' := by
  obtain ⟨A, c, rfl, hA⟩ := hv
  by_cases hin : 1 ≤ ni ∧ ni ≤ 300 ∧ 1 ≤ mi ∧ mi ≤ 300 ∧ ts.length ≤ 1000
  case neg => exact apart_bad w _ _ ni mi A ts.length c hin
  obtain ⟨n, rfl⟩ : ∃ n : Nat, ni = n := ⟨ni.toNat, by omega⟩
  obtain ⟨m, rfl⟩ : ∃ m : Nat, mi = m := ⟨mi.toNat, by omega⟩
  have f1 : ¬ (n : Int) < 1 := by omega
  have f2 : ¬ (n : Int) > 300 := by omega
  have f3 : ¬ (m : Int) < 1 := by omega
  have f4 : ¬ (m : Int) > 300 := by omega
  have f5 : ¬ (ts.length : Int) > 1000 := by omega
  obtain ⟨T, hT⟩ : ∃ x, ts.length = x := ⟨_, rfl⟩
  have HEL : Hid (∀ t, t < T → ∃ (g p : Nat) (b : Bool), A = some ⟨g, p, none⟩ ∧ w.cell? ⟨g, p + t, none⟩ = some (.bool b)) := fun t ht => by
    obtain ⟨g, p, e1, h1⟩ := hA (by omega)
    exact ⟨g, p, _, e1, h1 t (by omega)⟩
  rw [hT] at f5 ⊢
  have HN : Hid (1 ≤ n ∧ n ≤ 300 ∧ 1 ≤ m ∧ m ≤ 300 ∧ T ≤ 1000) := ⟨by omega, by omega, by omega, by omega, by omega⟩
  have Ti : (T : Int) ≤ 1000 := by omega
  have HSA := Lib.hid hsa
  have HSB := Lib.hid hsb
  have HG := Lib.hid hg
  have HF := Lib.hid hf
  have HGL : Hid (1 < w.heap.size ∧ 0 < w.heap.size) := ⟨hg.lt, hf.lt⟩
  have hssa := size_of32 hsa
  have hssb := size_of32 hsb
  have hl1 := sha256_length sa
  have hq1 := eql_h32 (sha256 sa) (sha256 sa) hl1 hl1
  rw [show (sha256 sa == sha256 sa) = true by simp] at hq1
  have hgd := guard_h32
  have HS1 : Hid (∀ W, Upd [] w W → Calls Tryd.prog 11 #[.agg (sa.map U8).toArray] W fun e w' => e = .returned (.agg ((sha256 sa).map U8).toArray) ∧ Upd [] W w') := fun W hW => step_ W sa hsa (hg.upd hW (by simp)) (hf.upd hW (by simp))
  have HS2 : Hid (∀ (W : World) (b : Nat), Upd [] w W → W.heap[b]? = some (.cells (sa.map U8).toArray 23 (0, 0)) → Calls Tryd.prog 12 #[.slice (some ⟨b, 0, none⟩) 32 32] W fun e w' => e = .returned (.agg ((sha256 sa).map U8).toArray) ∧ Upd [] W w') := fun W b hW hb => sum256 W _ sa (rd_row hb hsa) (by omega) (hg.upd hW (by simp)) (hf.upd hW (by simp))
  have HWX : Hid (∀ W, Calls Tryd.prog 6 #[.agg (sa.map U8).toArray, .int .i64 n] W fun e w' => ∃ bw bm bx, e = .returned (.tuple #[.pointer (some ⟨bw, 0, none⟩), .bool true]) ∧ WS w' W.heap.size bw bm bx sa n 0 ∧ Upd [] W w') := fun W => walkW W sa n hsa HN.out.1 (by have := HN.out; omega)
  have HWY : Hid (∀ W, Calls Tryd.prog 6 #[.agg (sb.map U8).toArray, .int .i64 m] W fun e w' => ∃ bw bm bx, e = .returned (.tuple #[.pointer (some ⟨bw, 0, none⟩), .bool true]) ∧ WS w' W.heap.size bw bm bx sb m 0 ∧ Upd [] W w') := fun W => walkW W sb m hsb HN.out.2.2.1 (by have := HN.out; omega)
  have HVX : Hid (∀ W i, Upd [] w W → Calls Tryd.prog 9 #[.agg (sa.map U8).toArray, .int .i64 n, .int .i64 i] W fun e w' => e = .returned (.tuple #[.agg ((valueOf sa n i).1.map U8).toArray, .bool (valueOf sa n i).2]) ∧ Upd [] W w') := fun W i hW => value_ W sa n i hsa (hg.upd hW (by simp)) (hf.upd hW (by simp))
  have HVY : Hid (∀ W i, Upd [] w W → Calls Tryd.prog 9 #[.agg (sb.map U8).toArray, .int .i64 m, .int .i64 i] W fun e w' => e = .returned (.tuple #[.agg ((valueOf sb m i).1.map U8).toArray, .bool (valueOf sb m i).2]) ∧ Upd [] W w') := fun W i hW => value_ W sb m i hsb (hg.upd hW (by simp)) (hf.upd hW (by simp))
  obtain ⟨ca, hca⟩ : ∃ c, (sa.map U8).toArray = c := ⟨_, rfl⟩
  have HCA := Lib.hid hca
  obtain ⟨cb, hcb⟩ : ∃ c, (sb.map U8).toArray = c := ⟨_, rfl⟩
  have HCB := Lib.hid hcb
  obtain ⟨c1, hc1⟩ : ∃ c, ((sha256 sa).map U8).toArray = c := ⟨_, rfl⟩
  rw [hca] at hssa HS1 HS2 HWX HVX
  rw [hcb] at hssb HWY HVY
  rw [hc1] at hq1 HS1 HS2
  rw [hca, hcb]
  clear hca hcb hc1 hl1 hsa hsb hg hf hA hT hin
  go_enter Tryd.func4, Tryd.ntmps4
  go_wp2_with (with_reducible refine arm_box (by with_unfolding_all exact rfl) ?_)
  intro b5 w1 hb5 k5 hU1 hz1
  change w1.heap[b5]? = some (.cells ca 23 (0, 0)) at k5
  go_wp2_with (with_reducible refine arm_box (by with_unfolding_all exact rfl) ?_)
  intro b7 w2 hb7 k7 hU2 hz2
  change w2.heap[b7]? = some (.cells cb 23 (0, 0)) at k7
  have k52 := hU2.heap k5 (by simp)
  have hV2 := hU1.trans hU2
  clear k5 hU1 hz1 hU2 hz2 hb5 hb7
  go_upto_region 3 with (fail)
  try go_simp
  go_wp2_with (with_reducible refine arm_load (by with_unfolding_all exact rfl) k52 Tryd.underlying23 (by with_unfolding_all exact rfl) hssa ?_)
  with_reducible refine (HWX.out _).mono ?_
  rintro e w3 ⟨xw, xm, xx, rfl, hX3, hU3⟩
  obtain ⟨lx, hlx⟩ : ∃ x, w2.heap.size = x := ⟨_, rfl⟩
  rw [hlx] at hX3
  have HLX : Hid (w.heap.size ≤ lx ∧ b5 < lx ∧ b7 < lx) := ⟨by have := hV2.size; omega, by have := lt_of_heap k52; omega, by have := lt_of_heap k7; omega⟩
  have k53 := hU3.heap k52 (by simp)
  have k73 := hU3.heap k7 (by simp)
  have hV3 := hV2.trans hU3
  clear k52 k7 hV2 hU3 hlx
  go_wp2_with (with_reducible refine arm_load (by with_unfolding_all exact rfl) k73 Tryd.underlying23 (by with_unfolding_all exact rfl) hssb ?_)
  with_reducible refine (HWY.out _).mono ?_
  rintro e w4 ⟨yw, ym, yx, rfl, hY4, hU4⟩
  obtain ⟨ly, hly⟩ : ∃ x, w3.heap.size = x := ⟨_, rfl⟩
  rw [hly] at hY4
  have hxl := hX3.lt
  have hyl := hY4.lt
  have HB : Hid (w.heap.size ≤ lx ∧ b5 < lx ∧ b7 < lx ∧ lx ≤ xw ∧ lx ≤ xm ∧ lx ≤ xx ∧ xw < ly ∧ xm < ly ∧ xx < ly ∧ ly ≤ yw ∧ ly ≤ ym ∧ ly ≤ yx) := ⟨HLX.out.1, HLX.out.2.1, HLX.out.2.2, hxl.2.2.2.1, hxl.2.2.2.2.1, hxl.2.2.2.2.2, by omega, by omega, by omega, hyl.2.2.2.1, hyl.2.2.2.2.1, hyl.2.2.2.2.2⟩
  have HX4 := Lib.hid (hX3.upd hU4 (by simp) (by simp) (by simp))
  have HY4 := Lib.hid hY4
  have K54 := Lib.hid (hU4.heap k53 (by simp))
  have K74 := Lib.hid (hU4.heap k73 (by simp))
  have HV4 := Lib.hid (hV3.trans hU4)
  clear hX3 k53 k73 hV3 hU4 hY4 hly hxl hyl HWX HWY
  go_upto_region 9 with (fail)
  go_wp2_with (fail)
  go_loopw [15, 16, 17] (fun iv kv tv wr => ∃ t i k : Nat, t ≤ T ∧ i + k = t ∧ tv = .int .i64 t ∧ iv = .int .i64 i ∧ kv = .int .i64 k ∧ WS wr lx xw xm xx sa n i ∧ WS wr ly yw ym yx sb m k ∧ wr.heap[b5]? = some (.cells ca 23 (0, 0)) ∧ wr.heap[b7]? = some (.cells cb 23 (0, 0)) ∧ Upd [] w wr) (fun _ _ tv _ => T - (intOf tv).toNat)
  case atStart => exact ⟨0, 0, 0, by omega, by omega, rfl, rfl, rfl, HX4.out, HY4.out, K54.out, K74.out, HV4.out⟩
  case round =>
    obtain ⟨t, i, k, ht, hik, rfl, rfl, rfl, hX, hY, k5, k7, hV⟩ := hrel
    obtain ⟨wo, rfl⟩ : ∃ wo : World, wo = wr := ⟨_, rfl⟩
    have HX := Lib.hid hX
    have HY := Lib.hid hY
    have K5 := Lib.hid k5
    have K7 := Lib.hid k7
    have HV := Lib.hid hV
    have HT : Hid (t ≤ T ∧ i + k = t) := ⟨ht, hik⟩
    have ii : (i : Int) ≤ 1000 := by have := HN.out; omega
    have kk : (k : Int) ≤ 1000 := by have := HN.out; omega
    clear hX hY k5 k7 hV
    by_cases hlt : t < T
    · have ti : (t : Int) < (T : Int) := by omega
      obtain ⟨g, p, b, rfl, hcb⟩ := HEL.out t hlt
      have cbt := HV.out.cell hcb (by simp)
      have HLT : Hid (t < T) := hlt
      clear hcb hlt ht hik
      cases b with
      | true =>
        obtain ⟨vr, hvr⟩ : ∃ x, valueOf sa (n : Int) ((i + 1 : Nat) : Int) = x := ⟨_, rfl⟩
        have hvl := valueOf_length sa (n : Int) ((i + 1 : Nat) : Int) HSA.out
        have HNX : Hid (Calls Tryd.prog 8 #[.pointer (some ⟨xw, 0, none⟩)] wo fun e w' => ∃ idx : Int, e = .returned (.tuple #[.int .i64 idx, .agg ((valueOf sa n ((i + 1 : Nat) : Int)).1.map U8).toArray, .bool (valueOf sa n ((i + 1 : Nat) : Int)).2]) ∧ ((valueOf sa n ((i + 1 : Nat) : Int)).2 = true → idx = ((i + 1 : Nat) : Int)) ∧ WS w' lx xw xm xx sa n (i + 1) ∧ Upd [xw, xm] wo w' ∧ ((valueOf sa n ((i + 1 : Nat) : Int)).2 = false → idx = 0)) := nextW wo lx xw xm xx n i sa HX.out (by have := HN.out; omega) (by have := HN.out; omega) HSA.out (HG.out.upd HV.out (by simp)) (HF.out.upd HV.out (by simp)) (by have := HGL.out; have := HB.out; omega) (by have := HGL.out; have := HB.out; omega)
        have HVA : Hid (∀ W, Upd [] w W → Calls Tryd.prog 9 #[.agg ca, .int .i64 n, .int .i64 ((i : Int) + 1)] W fun e w' => e = .returned (.tuple #[.agg (vr.1.map U8).toArray, .bool vr.2]) ∧ Upd [] W w') := fun W hW => by
          have := HVX.out W ((i + 1 : Nat) : Int) hW
          rwa [hvr, show ((i + 1 : Nat) : Int) = (i : Int) + 1 by omega] at this
        rw [hvr] at hvl HNX
        obtain ⟨VL, bb⟩ := vr
        simp only at hvl HNX HVA
        have hsv := size_of32 hvl
        have hov := same_size32 hvl
        have hav := one_of32 VL
        have hqq := neq_h32 VL VL hvl hvl
        rw [show (VL != VL) = false by simp] at hqq
        obtain ⟨cv, hcv⟩ : ∃ c, (VL.map U8).toArray = c := ⟨_, rfl⟩
        rw [hcv] at hsv hov hav hqq HNX HVA
        clear hcv hvl hvr
        go_upto_region 13 with (fail)
        try go_simp
        go_wp2_with (fail)
        with_reducible refine HNX.out.mono ?_
        rintro e w2 ⟨idx, rfl, hidx, hX2, hU2, hidx0⟩
        have HY2 := Lib.hid (HY.out.upd hU2 (fun hm => by have := HB.out; simp at hm; omega) (fun hm => by have := HB.out; simp at hm; omega) (fun hm => by have := HB.out; simp at hm; omega))
        have HX2 := Lib.hid hX2
        have K52 := Lib.hid (hU2.heap K5.out (fun hm => by have := HB.out; simp at hm; omega))
        have K72 := Lib.hid (hU2.heap K7.out (fun hm => by have := HB.out; simp at hm; omega))
        have HV2 := Lib.hid (HV.out.trans' hU2 (fun i hm hl => by have := HB.out; simp at hm; omega))
        have HIX := Lib.hid hidx
        have HIX0 := Lib.hid hidx0
        clear hidx hX2 hU2 HNX cbt hidx0
        go_wp2_with (with_reducible refine arm_alloc (zero_h32 _) ?_)
        intro b19 w3 hb19 k3 hU3 hz3
        change w3.heap[b19]? = some (.cells (zrow8 32) 23 (0, 0)) at k3
        go_wp2_with (with_reducible refine arm_store (by with_unfolding_all exact rfl) (by with_unfolding_all exact rfl) k3 hsv hov hav ?_)
        intro w4 k4 hX4 hz4
        have hT4 := hU3.fresh hb19 hX4
        have HX4 := Lib.hid (HX2.out.upd hT4 (by simp) (by simp) (by simp))
        have HY4 := Lib.hid (HY2.out.upd hT4 (by simp) (by simp) (by simp))
        have K54 := Lib.hid (hT4.heap K52.out (by simp))
        have K74 := Lib.hid (hT4.heap K72.out (by simp))
        have HV4 := Lib.hid (HV2.out.trans hT4)
        have K194 := Lib.hid k4
        clear hb19 k3 hU3 hz3 k4 hX4 hz4 hT4
        have ka := K54.out
        go_upto_region 15 with (fail)
        try go_simp
        go_wp2_with (with_reducible refine arm_load (by with_unfolding_all exact rfl) ka Tryd.underlying23 (by with_unfolding_all exact rfl) hssa ?_)
        with_reducible refine (HVA.out _ HV4.out).mono ?_
        rintro e w5 ⟨rfl, hU5⟩
        have HX5 := Lib.hid (HX4.out.upd hU5 (by simp) (by simp) (by simp))
        have HY5 := Lib.hid (HY4.out.upd hU5 (by simp) (by simp) (by simp))
        have K55 := Lib.hid (hU5.heap K54.out (by simp))
        have K75 := Lib.hid (hU5.heap K74.out (by simp))
        have HV5 := Lib.hid (HV4.out.trans hU5)
        have K195 := Lib.hid (hU5.heap K194.out (by simp))
        clear hU5 ka
        go_wp2_with (with_reducible refine arm_alloc (zero_h32 _) ?_)
        intro b21 w6 hb21 k6 hU6 hz6
        change w6.heap[b21]? = some (.cells (zrow8 32) 23 (0, 0)) at k6
        go_wp2_with (with_reducible refine arm_store (by with_unfolding_all exact rfl) (by with_unfolding_all exact rfl) k6 hsv hov hav ?_)
        intro w7 k7' hX7 hz7
        have hT7 := hU6.fresh hb21 hX7
        have HX7 := Lib.hid (HX5.out.upd hT7 (by simp) (by simp) (by simp))
        have HY7 := Lib.hid (HY5.out.upd hT7 (by simp) (by simp) (by simp))
        have K57 := Lib.hid (hT7.heap K55.out (by simp))
        have K77 := Lib.hid (hT7.heap K75.out (by simp))
        have HV7 := Lib.hid (HV5.out.trans hT7)
        have k197 := hT7.heap K195.out (by simp)
        clear hb21 k6 hU6 hz6 hX7 hz7 hT7
        cases bb with
        | true =>
          have hix : idx = (i : Int) + 1 := by have := HIX.out rfl; omega
          subst hix
          have ne2 : ((i : Int) + 1 != (i : Int) + 1) = false := by simp
          go_wp2_with (first
            | (with_reducible refine arm_load_g (by with_unfolding_all exact rfl) (by with_unfolding_all exact rfl) k197 Tryd.underlying23 (by with_unfolding_all exact rfl) hsv ?_)
            | (with_reducible refine arm_load_g (by with_unfolding_all exact rfl) (by with_unfolding_all exact rfl) k7' Tryd.underlying23 (by with_unfolding_all exact rfl) hsv ?_))
          go_roundw
          case rel => exact ⟨t + 1, i + 1, k, by have := HLT.out; omega, by have := HT.out; omega, by go_num, by go_num, by go_num, HX7.out, HY7.out, K57.out, K77.out, HV7.out⟩
          case measure => have := HLT.out; simp [intOf]; omega
        | false =>
          go_wp2_with (first
            | (with_reducible refine arm_load_g (by with_unfolding_all exact rfl) (by with_unfolding_all exact rfl) k197 Tryd.underlying23 (by with_unfolding_all exact rfl) hsv ?_)
            | (with_reducible refine arm_load_g (by with_unfolding_all exact rfl) (by with_unfolding_all exact rfl) k7' Tryd.underlying23 (by with_unfolding_all exact rfl) hsv ?_))
          go_roundw
          case rel => exact ⟨t + 1, i + 1, k, by have := HLT.out; omega, by have := HT.out; omega, by go_num, by go_num, by go_num, HX7.out, HY7.out, K57.out, K77.out, HV7.out⟩
          case measure => have := HLT.out; simp [intOf]; omega
      | false =>
        obtain ⟨vr, hvr⟩ : ∃ x, valueOf sb (m : Int) ((k + 1 : Nat) : Int) = x := ⟨_, rfl⟩
        have hvl := valueOf_length sb (m : Int) ((k + 1 : Nat) : Int) HSB.out
        have HNX : Hid (Calls Tryd.prog 8 #[.pointer (some ⟨yw, 0, none⟩)] wo fun e w' => ∃ idx : Int, e = .returned (.tuple #[.int .i64 idx, .agg ((valueOf sb m ((k + 1 : Nat) : Int)).1.map U8).toArray, .bool (valueOf sb m ((k + 1 : Nat) : Int)).2]) ∧ ((valueOf sb m ((k + 1 : Nat) : Int)).2 = true → idx = ((k + 1 : Nat) : Int)) ∧ WS w' ly yw ym yx sb m (k + 1) ∧ Upd [yw, ym] wo w' ∧ ((valueOf sb m ((k + 1 : Nat) : Int)).2 = false → idx = 0)) := nextW wo ly yw ym yx m k sb HY.out (by have := HN.out; omega) (by have := HN.out; omega) HSB.out (HG.out.upd HV.out (by simp)) (HF.out.upd HV.out (by simp)) (by have := HGL.out; have := HB.out; omega) (by have := HGL.out; have := HB.out; omega)
        have HVA : Hid (∀ W, Upd [] w W → Calls Tryd.prog 9 #[.agg cb, .int .i64 m, .int .i64 ((k : Int) + 1)] W fun e w' => e = .returned (.tuple #[.agg (vr.1.map U8).toArray, .bool vr.2]) ∧ Upd [] W w') := fun W hW => by
          have := HVY.out W ((k + 1 : Nat) : Int) hW
          rwa [hvr, show ((k + 1 : Nat) : Int) = (k : Int) + 1 by omega] at this
        rw [hvr] at hvl HNX
        obtain ⟨VL, bb⟩ := vr
        simp only at hvl HNX HVA
        have hsv := size_of32 hvl
        have hov := same_size32 hvl
        have hav := one_of32 VL
        have hqq := neq_h32 VL VL hvl hvl
        rw [show (VL != VL) = false by simp] at hqq
        obtain ⟨cv, hcv⟩ : ∃ c, (VL.map U8).toArray = c := ⟨_, rfl⟩
        rw [hcv] at hsv hov hav hqq HNX HVA
        clear hcv hvl hvr
        go_upto_region 18 with (fail)
        try go_simp
        go_wp2_with (fail)
        with_reducible refine HNX.out.mono ?_
        rintro e w2 ⟨idx, rfl, hidx, hX2, hU2, hidx0⟩
        have HX2 := Lib.hid (HX.out.upd hU2 (fun hm => by have := HB.out; simp at hm; omega) (fun hm => by have := HB.out; simp at hm; omega) (fun hm => by have := HB.out; simp at hm; omega))
        have HY2 := Lib.hid hX2
        have K52 := Lib.hid (hU2.heap K5.out (fun hm => by have := HB.out; simp at hm; omega))
        have K72 := Lib.hid (hU2.heap K7.out (fun hm => by have := HB.out; simp at hm; omega))
        have HV2 := Lib.hid (HV.out.trans' hU2 (fun i hm hl => by have := HB.out; simp at hm; omega))
        have HIX := Lib.hid hidx
        have HIX0 := Lib.hid hidx0
        clear hidx hX2 hU2 HNX cbt hidx0
        go_wp2_with (with_reducible refine arm_alloc (zero_h32 _) ?_)
        intro b19 w3 hb19 k3 hU3 hz3
        change w3.heap[b19]? = some (.cells (zrow8 32) 23 (0, 0)) at k3
        go_wp2_with (with_reducible refine arm_store (by with_unfolding_all exact rfl) (by with_unfolding_all exact rfl) k3 hsv hov hav ?_)
        intro w4 k4 hX4 hz4
        have hT4 := hU3.fresh hb19 hX4
        have HX4 := Lib.hid (HX2.out.upd hT4 (by simp) (by simp) (by simp))
        have HY4 := Lib.hid (HY2.out.upd hT4 (by simp) (by simp) (by simp))
        have K54 := Lib.hid (hT4.heap K52.out (by simp))
        have K74 := Lib.hid (hT4.heap K72.out (by simp))
        have HV4 := Lib.hid (HV2.out.trans hT4)
        have K194 := Lib.hid k4
        clear hb19 k3 hU3 hz3 k4 hX4 hz4 hT4
        have ka := K74.out
        go_upto_region 20 with (fail)
        try go_simp
        go_wp2_with (with_reducible refine arm_load (by with_unfolding_all exact rfl) ka Tryd.underlying23 (by with_unfolding_all exact rfl) hssb ?_)
        with_reducible refine (HVA.out _ HV4.out).mono ?_
        rintro e w5 ⟨rfl, hU5⟩
        have HX5 := Lib.hid (HX4.out.upd hU5 (by simp) (by simp) (by simp))
        have HY5 := Lib.hid (HY4.out.upd hU5 (by simp) (by simp) (by simp))
        have K55 := Lib.hid (hU5.heap K54.out (by simp))
        have K75 := Lib.hid (hU5.heap K74.out (by simp))
        have HV5 := Lib.hid (HV4.out.trans hU5)
        have K195 := Lib.hid (hU5.heap K194.out (by simp))
        clear hU5 ka
        go_wp2_with (with_reducible refine arm_alloc (zero_h32 _) ?_)
        intro b21 w6 hb21 k6 hU6 hz6
        change w6.heap[b21]? = some (.cells (zrow8 32) 23 (0, 0)) at k6
        go_wp2_with (with_reducible refine arm_store (by with_unfolding_all exact rfl) (by with_unfolding_all exact rfl) k6 hsv hov hav ?_)
        intro w7 k7' hX7 hz7
        have hT7 := hU6.fresh hb21 hX7
        have HX7 := Lib.hid (HX5.out.upd hT7 (by simp) (by simp) (by simp))
        have HY7 := Lib.hid (HY5.out.upd hT7 (by simp) (by simp) (by simp))
        have K57 := Lib.hid (hT7.heap K55.out (by simp))
        have K77 := Lib.hid (hT7.heap K75.out (by simp))
        have HV7 := Lib.hid (HV5.out.trans hT7)
        have k197 := hT7.heap K195.out (by simp)
        clear hb21 k6 hU6 hz6 hX7 hz7 hT7
        cases bb with
        | true =>
          have hix : idx = (k : Int) + 1 := by have := HIX.out rfl; omega
          subst hix
          have ne2 : ((k : Int) + 1 != (k : Int) + 1) = false := by simp
          go_wp2_with (first
            | (with_reducible refine arm_load_g (by with_unfolding_all exact rfl) (by with_unfolding_all exact rfl) k197 Tryd.underlying23 (by with_unfolding_all exact rfl) hsv ?_)
            | (with_reducible refine arm_load_g (by with_unfolding_all exact rfl) (by with_unfolding_all exact rfl) k7' Tryd.underlying23 (by with_unfolding_all exact rfl) hsv ?_))
          go_roundw
          case rel => exact ⟨t + 1, i, k + 1, by have := HLT.out; omega, by have := HT.out; omega, by go_num, by go_num, by go_num, HX7.out, HY7.out, K57.out, K77.out, HV7.out⟩
          case measure => have := HLT.out; simp [intOf]; omega
        | false =>
          go_wp2_with (first
            | (with_reducible refine arm_load_g (by with_unfolding_all exact rfl) (by with_unfolding_all exact rfl) k197 Tryd.underlying23 (by with_unfolding_all exact rfl) hsv ?_)
            | (with_reducible refine arm_load_g (by with_unfolding_all exact rfl) (by with_unfolding_all exact rfl) k7' Tryd.underlying23 (by with_unfolding_all exact rfl) hsv ?_))
          go_roundw
          case rel => exact ⟨t + 1, i, k + 1, by have := HLT.out; omega, by have := HT.out; omega, by go_num, by go_num, by go_num, HX7.out, HY7.out, K57.out, K77.out, HV7.out⟩
          case measure => have := HLT.out; simp [intOf]; omega
    · have ti : ¬ (t : Int) < (T : Int) := by omega
      have hikT : i ≤ 1000 ∧ k ≤ 1000 := by have := HN.out; omega
      have HIK := Lib.hid hikT
      have HTX : Hid (∀ W, Upd [] wo W → Calls Tryd.prog 10 #[.pointer (some ⟨xw, 0, none⟩), .int .i64 n, .int .i64 i, .int .i64 0] W fun e w' => e = .returned (.bool true) ∧ Upd [] W w') := fun W hW => thriftyW W lx xw xm xx n i sa (HX.out.upd hW (by simp) (by simp) (by simp)) HN.out.1 (by have := HN.out; omega) (by have := HIK.out; omega)
      have HTY : Hid (∀ W, Upd [] wo W → Calls Tryd.prog 10 #[.pointer (some ⟨yw, 0, none⟩), .int .i64 m, .int .i64 k, .int .i64 0] W fun e w' => e = .returned (.bool true) ∧ Upd [] W w') := fun W hW => thriftyW W ly yw ym yx m k sb (HY.out.upd hW (by simp) (by simp) (by simp)) HN.out.2.2.1 (by have := HN.out; omega) (by have := HIK.out; omega)
      clear ht hik hikT hlt
      go_upto_region 23 with (fail)
      try go_simp
      go_wp2_with (fail)
      with_reducible refine (HTX.out _ (Upd.refl _ _)).mono ?_
      rintro e w5 ⟨rfl, hU5⟩
      go_wp2_with (fail)
      with_reducible refine (HTY.out _ hU5).mono ?_
      rintro e w6 ⟨rfl, hU6⟩
      have hT6 := hU5.trans hU6
      have hV6 := HV.out.trans hT6
      have k56 := hT6.heap K5.out (by simp)
      have hQ5 : Hid (∀ W, Upd [] w6 W → ∃ t fr, W.heap[b5]? = some (.cells ca t fr)) := fun W h => ⟨_, _, h.heap k56 (by simp)⟩
      have HS1' : Hid (∀ W, Upd [] w6 W → Calls Tryd.prog 11 #[.agg ca] W fun e w' => e = .returned (.agg c1) ∧ Upd [] W w') := fun W hW => HS1.out W (hV6.trans hW)
      have HS2' : Hid (∀ W, Upd [] w6 W → Calls Tryd.prog 12 #[.slice (some ⟨b5, 0, none⟩) 32 32] W fun e w' => e = .returned (.agg c1) ∧ Upd [] W w') := fun W hW => HS2.out W b5 (hV6.trans hW) (by have := hW.heap k56 (by simp); rwa [← HCA.out] at this ⊢)
      clear hU5 hU6 hT6
      go_upto_region 25 with (fail)
      try go_simp
      refine wp_region_quiet_all (Upd [] w6) (by kernel_rfl) (by kernel_rfl) (Upd.refl _ _).drew ?_
      repeat (first
        | (refine wpQuiet_val rfl (quiet_load_row 23 _ rfl b5 rfl _ hQ5.out Tryd.underlying23 rfl hssa) ?_)
        | (refine wpQuiet_step (fun K hK => ?_)
           go_simp
           first
             | (refine ⟨_, fun _ _ => rfl, hK _ ?_⟩; clear hK K)
             | ((with_reducible refine ⟨_, fun w2 hw2 => (HS1'.out w2 hw2).mono (fun e w' h => ⟨h.1, hw2.trans h.2⟩), hK _ ?_⟩); clear hK K)
             | ((with_reducible refine ⟨_, fun w2 hw2 => (HS2'.out w2 hw2).mono (fun e w' h => ⟨h.1, hw2.trans h.2⟩), hK _ ?_⟩); clear hK K)
             | (refine hK _ ?_; clear hK K)))
      refine wpQuiet_nil ?_
      intro w7 hU7
      go_wp2_with (fail)
      go_ret
      exact ⟨rfl, hV6.trans hU7⟩
end Go.Proofs.YtaphbkkklapdaaaDoor
