/-
  The law Sha256Pieces: for every message and all cuts it returns true and makes only new memory.
-/
import Derived.Test.YtdejiachopiaaaaDoorKnown256
import Derived.Test.YtdejiachopiaaaaDoorRegion
import Derived.Test.YtdejiachopiaaaaDoorCut
namespace Go.Proofs.YtdejiachopiaaaaDoor
open Go Go.RowKit Go.Proofs
set_option maxRecDepth 100000 in
set_option maxHeartbeats 6400000 in
theorem law_pieces256 (w : World) (v u : Value) (m cuts : List (BitVec 8)) (hv : RdB w v m) (hu : RdB w u cuts) (hm : m.length ≤ 140737488355232) (hcu : cuts.length ≤ 140737488355232) (hg : Gl256 w) (hf : GlFirst256 w) :
    Calls Tryd.prog 8 #[v, u] w fun e w' => e = .returned (.bool true) ∧ Upd [] w w' := by
  obtain ⟨A, cap, rfl, hcap1, hcap2⟩ := hv.isSlice
  obtain ⟨A2, cap2, rfl, hcap3, hcap4⟩ := hu.isSlice
  obtain ⟨n, hn⟩ : ∃ n, m.length = n := ⟨_, rfl⟩
  obtain ⟨nc, hnc⟩ : ∃ n, cuts.length = n := ⟨_, rfl⟩
  rw [hn] at hm hcap1 ⊢
  rw [hnc] at hcu hcap3 ⊢
  have HV := Lib.hid hv
  have HU := Lib.hid hu
  have HG := Lib.hid hg
  have HF := Lib.hid hf
  have HN := Lib.hid hn
  have HNC := Lib.hid hnc
  have hgl := hg.lt
  clear hv hu hg hf hn hnc
  go_enter Tryd.func8, Tryd.ntmps8
  go_upto_region 4 with (go_at_call 26; refine (new256 _ HF.out).mono ?_; rintro e w1 ⟨rfl, hD1, hU1⟩)
  obtain ⟨D, hD⟩ : ∃ D, w.heap.size = D := ⟨_, rfl⟩
  have hD0 := DigOf256.new hD1
  rw [hD] at hD0 hgl ⊢
  have HD := Lib.hid hD
  clear hD1 hD
  go_wp2
  go_loopw [6, 7] (fun x i wr => ∃ k a : Nat, k ≤ nc ∧ a ≤ n ∧ i = .int .i64 k ∧ x = .int .i64 a ∧ DigOf256 wr D (m.take a) ∧ Upd [] w wr) (fun _ i _ => nc - (intOf i).toNat)
  case atStart => exact ⟨0, 0, by omega, by omega, rfl, rfl, by simpa using hD0, hU1⟩
  case round =>
    clear hD0 hU1
    obtain ⟨k, a, hk, ha, rfl, rfl, hDg, hU⟩ := hrel
    by_cases hlt : k < nc ∧ a < n
    · obtain ⟨hk1, ha1⟩ := hlt
      obtain ⟨g2, p2, c2, e, _, _, hB2⟩ := HU.out.at (by have := HNC.out; omega)
      injection e with e1 _ e3
      subst e1 e3
      have hkc : k < cuts.length := by have := HNC.out; omega
      obtain ⟨c, hc⟩ : ∃ c, cuts[k] = c := ⟨_, rfl⟩
      have hcell : wr.cell? ⟨g2, p2 + k, none⟩ = some (U8 c) := by rw [← hc]; exact (hB2.upd hU (by simp)) k hkc
      obtain ⟨r, hr⟩ : ∃ r, c.toNat % 200 = r := ⟨_, rfl⟩
      have hri : (c.toNat : Int) % 200 = (r : Int) := by omega
      have hrl : r < 200 := by omega
      have hrli : (r : Int) < 200 := by omega
      have hcl : (c.toNat : Int) < 256 := by have := c.isLt; omega
      obtain ⟨e, he⟩ : ∃ e, a + r = e := ⟨_, rfl⟩
      have hei : (a : Int) + (r : Int) = (e : Int) := by omega
      have hea : a ≤ e := by omega
      have hkI : (k : Int) < (nc : Int) := by omega
      have haI : (a : Int) < (n : Int) := by omega
      clear hc hr he hB2
      by_cases hgt : n < e
      · have hgi : (n : Int) < (e : Int) := by omega
        go_upto_region 12 with (first
          | (refine cut_bytes rfl _ (some _) (some _) rfl A n cap (by rfl) m (by have := (HV.out.upd0 hU); rwa [HN.out] at this) a n (.inr (by rfl)) (.inr (by rfl)) (by omega) (by omega) ?_; intro B1 hB1 hB1')
          | (go_at_call 29; refine (write256 _ _ _ (m.take a) ((m.take n).drop a) hDg hB1 (by intro h0 h; rw [hB1' (by simp at h0; omega)] at h; have := HV.out.lt (by have := HN.out; simp at h0; omega) _ (by rw [HN.out]; exact h); have := HD.out; omega) (by have := HN.out; simp; omega) (by have := HN.out; simp; omega) (HG.out.upd hU (by simp)) (by omega)).mono ?_; rintro e2 w3 ⟨⟨y, rfl⟩, hD3, hU3⟩))
        have ej : m.take a ++ (m.take n).drop a = m.take n := by
          have := List.take_append_drop a (m.take n)
          rwa [List.take_take, Nat.min_eq_left (by omega)] at this
        rw [ej] at hD3
        have hU4 : Upd [] w w3 := hU.trans' hU3 (fun i hi hlt => by simp at hi; have := HD.out; omega)
        clear hU3 hB1 hB1' ej hDg
        go_upto_region 13 with (fail)
        have hdi : ∀ W, Upd [] w3 W → DigOf256 W D (m.take n) := fun W h => hD3.upd h (by simp)
        have hrd : ∀ W, Upd [] w3 W → RdB W (.slice A n cap) (m.take n) := fun W h => by
          have h1 := RdB.cut_any ((HV.out.upd0 hU4).upd0 h) 0 n (by omega) (by have := HN.out; omega)
          obtain ⟨A', c', e1, q1, q2, q3⟩ := (HV.out.upd0 hU4).upd0 h
          injection e1 with e1 _ e3
          subst e1 e3
          refine ⟨A, cap, by have := HN.out; rw [List.length_take, Nat.min_eq_left (by omega)], by have := HN.out; simp; omega, hcap2, fun hp => ?_⟩
          obtain ⟨g, p, rfl, hb⟩ := q3 (by simp at hp; omega)
          exact ⟨g, p, rfl, hb.take n⟩
        have hgg : ∀ W, Upd [] w3 W → Gl256 W ∧ GlFirst256 W := fun W h => ⟨(HG.out.upd hU4 (by simp)).upd h (by simp), (HF.out.upd hU4 (by simp)).upd h (by simp)⟩
        have HDI := Lib.hid hdi
        have HRD := Lib.hid hrd
        have HGG := Lib.hid hgg
        obtain ⟨T, hT⟩ : ∃ T, m.take n = T := ⟨_, rfl⟩
        have hTl : T.length ≤ 140737488355232 := by rw [← hT]; have := HN.out; simp; omega
        rw [hT] at HDI HRD hD3
        have HT := Lib.hid hT
        obtain ⟨H, hH⟩ : ∃ H, sha256 T = H := ⟨_, rfl⟩
        have hHl : H.length = 32 := by rw [← hH]; exact sha256_length T
        have hq := fun w => neq_h32 H H hHl hHl w
        rw [show (H != H) = false by simp] at hq
        have hqg := guard_h32
        have hs1 := fun w h1 h2 => digsum256 w D T h1 (by omega) h2
        have hs2 := fun w v h1 h2 h3 => sum256 w v T h1 (by omega) h2 h3
        rw [hH] at hs1 hs2
        have HS1 := Lib.hid hs1
        have HS2 := Lib.hid hs2
        have hB9 : (n : Int) ≤ (cap : Int) := by omega
        have hB0 : (0 : Int) ≤ (n : Int) := by omega
        have hk20 : decide ((k : Int) < 20) = decide (k < 20) := by simp; omega
        clear hdi hrd hgg hT hH hs1 hs2 hHl
        by_cases h20 : k < 20
        · have h20i : (k : Int) < 20 := by omega
          clear hk20
          refine wp_region_quiet_all (Upd [] w3) (by kernel_rfl) (by kernel_rfl) (Upd.refl _ _).drew ?_
          repeat (first
            | (refine wpQuiet_step (fun K hK => ?_)
               go_simp
               first
                 | (refine ⟨_, fun _ _ => rfl, hK _ ?_⟩; clear hK K)
                 | (refine ⟨_, fun w2 hw2 => (HS1.out w2 (HDI.out w2 hw2) (HGG.out w2 hw2).1).mono (fun e w' h => ⟨h.1, hw2.trans h.2⟩), hK _ ?_⟩; clear hK K)
                 | (refine ⟨_, fun w2 hw2 => (HS2.out w2 _ (HRD.out w2 hw2) (HGG.out w2 hw2).1 (HGG.out w2 hw2).2).mono (fun e w' h => ⟨h.1, hw2.trans h.2⟩), hK _ ?_⟩; clear hK K)
                 | (refine hK _ ?_; clear hK K)))
          refine wpQuiet_nil ?_
          intro w4 hU5
          go_wp2
          go_roundw
          case rel => exact ⟨k + 1, n, by omega, by omega, by go_num, rfl, by rw [HT.out]; exact HDI.out w4 hU5, hU4.trans hU5⟩
          case measure => simp [intOf]; omega
        · have h20i : ¬ (k : Int) < 20 := by omega
          have h20f : decide ((k : Int) < 20) = false := by simpa using h20i
          clear hk20
          go_quiet (fail)
          rename Nat => nq
          go_wp2
          go_roundw
          case rel => exact ⟨k + 1, n, by omega, by omega, by go_num, rfl, by rw [HT.out]; exact HDI.out _ ((Upd.refl [] w3).drewN nq), hU4.drewN nq⟩
          case measure => simp [intOf]; omega
      · have hgi : ¬ (n : Int) < (e : Int) := by omega
        go_upto_region 12 with (first
          | (refine cut_bytes rfl _ (some _) (some _) rfl A n cap (by rfl) m (by have := (HV.out.upd0 hU); rwa [HN.out] at this) a e (.inr (by rfl)) (.inr (by rfl)) (by omega) (by omega) ?_; intro B1 hB1 hB1')
          | (go_at_call 29; refine (write256 _ _ _ (m.take a) ((m.take e).drop a) hDg hB1 (by intro h0 h; rw [hB1' (by simp at h0; omega)] at h; have := HV.out.lt (by have := HN.out; simp at h0; omega) _ (by rw [HN.out]; exact h); have := HD.out; omega) (by have := HN.out; simp; omega) (by have := HN.out; simp; omega) (HG.out.upd hU (by simp)) (by omega)).mono ?_; rintro e2 w3 ⟨⟨y, rfl⟩, hD3, hU3⟩))
        have ej : m.take a ++ (m.take e).drop a = m.take e := by
          have := List.take_append_drop a (m.take e)
          rwa [List.take_take, Nat.min_eq_left (by omega)] at this
        rw [ej] at hD3
        have hU4 : Upd [] w w3 := hU.trans' hU3 (fun i hi hlt => by simp at hi; have := HD.out; omega)
        clear hU3 hB1 hB1' ej hDg
        go_upto_region 13 with (fail)
        have hdi : ∀ W, Upd [] w3 W → DigOf256 W D (m.take e) := fun W h => hD3.upd h (by simp)
        have hrd : ∀ W, Upd [] w3 W → RdB W (.slice A e cap) (m.take e) := fun W h => by
          have h1 := RdB.cut_any ((HV.out.upd0 hU4).upd0 h) 0 e (by omega) (by have := HN.out; omega)
          obtain ⟨A', c', e1, q1, q2, q3⟩ := (HV.out.upd0 hU4).upd0 h
          injection e1 with e1 _ e3
          subst e1 e3
          refine ⟨A, cap, by have := HN.out; rw [List.length_take, Nat.min_eq_left (by omega)], by have := HN.out; simp; omega, hcap2, fun hp => ?_⟩
          obtain ⟨g, p, rfl, hb⟩ := q3 (by simp at hp; omega)
          exact ⟨g, p, rfl, hb.take e⟩
        have hgg : ∀ W, Upd [] w3 W → Gl256 W ∧ GlFirst256 W := fun W h => ⟨(HG.out.upd hU4 (by simp)).upd h (by simp), (HF.out.upd hU4 (by simp)).upd h (by simp)⟩
        have HDI := Lib.hid hdi
        have HRD := Lib.hid hrd
        have HGG := Lib.hid hgg
        obtain ⟨T, hT⟩ : ∃ T, m.take e = T := ⟨_, rfl⟩
        have hTl : T.length ≤ 140737488355232 := by rw [← hT]; have := HN.out; simp; omega
        rw [hT] at HDI HRD hD3
        have HT := Lib.hid hT
        obtain ⟨H, hH⟩ : ∃ H, sha256 T = H := ⟨_, rfl⟩
        have hHl : H.length = 32 := by rw [← hH]; exact sha256_length T
        have hq := fun w => neq_h32 H H hHl hHl w
        rw [show (H != H) = false by simp] at hq
        have hqg := guard_h32
        have hs1 := fun w h1 h2 => digsum256 w D T h1 (by omega) h2
        have hs2 := fun w v h1 h2 h3 => sum256 w v T h1 (by omega) h2 h3
        rw [hH] at hs1 hs2
        have HS1 := Lib.hid hs1
        have HS2 := Lib.hid hs2
        have hB9 : (e : Int) ≤ (cap : Int) := by omega
        have hB0 : (0 : Int) ≤ (e : Int) := by omega
        have hk20 : decide ((k : Int) < 20) = decide (k < 20) := by simp; omega
        clear hdi hrd hgg hT hH hs1 hs2 hHl
        by_cases h20 : k < 20
        · have h20i : (k : Int) < 20 := by omega
          clear hk20
          refine wp_region_quiet_all (Upd [] w3) (by kernel_rfl) (by kernel_rfl) (Upd.refl _ _).drew ?_
          repeat (first
            | (refine wpQuiet_step (fun K hK => ?_)
               go_simp
               first
                 | (refine ⟨_, fun _ _ => rfl, hK _ ?_⟩; clear hK K)
                 | (refine ⟨_, fun w2 hw2 => (HS1.out w2 (HDI.out w2 hw2) (HGG.out w2 hw2).1).mono (fun e w' h => ⟨h.1, hw2.trans h.2⟩), hK _ ?_⟩; clear hK K)
                 | (refine ⟨_, fun w2 hw2 => (HS2.out w2 _ (HRD.out w2 hw2) (HGG.out w2 hw2).1 (HGG.out w2 hw2).2).mono (fun e w' h => ⟨h.1, hw2.trans h.2⟩), hK _ ?_⟩; clear hK K)
                 | (refine hK _ ?_; clear hK K)))
          refine wpQuiet_nil ?_
          intro w4 hU5
          go_wp2
          go_roundw
          case rel => exact ⟨k + 1, e, by omega, by omega, by go_num, rfl, by rw [HT.out]; exact HDI.out w4 hU5, hU4.trans hU5⟩
          case measure => simp [intOf]; omega
        · have h20i : ¬ (k : Int) < 20 := by omega
          have h20f : decide ((k : Int) < 20) = false := by simpa using h20i
          clear hk20
          go_quiet (fail)
          rename Nat => nq
          go_wp2
          go_roundw
          case rel => exact ⟨k + 1, e, by omega, by omega, by go_num, rfl, by rw [HT.out]; exact HDI.out _ ((Upd.refl [] w3).drewN nq), hU4.drewN nq⟩
          case measure => simp [intOf]; omega
    · by_cases hk1 : k < nc
      · have hki : (k : Int) < (nc : Int) := by omega
        have han : ¬ (a : Int) < (n : Int) := by omega
        clear hlt
        go_upto_region 16 with (first
          | (refine cut_bytes rfl _ (some _) none rfl A n cap (by rfl) m (by have := (HV.out.upd0 hU); rwa [HN.out] at this) a n (.inr (by rfl)) (.inl ⟨by rfl, rfl⟩) (by omega) (by omega) ?_; intro B1 hB1 hB1')
          | (go_at_call 29; refine (write256 _ _ _ (m.take a) ((m.take n).drop a) hDg hB1 (by intro h0 h; rw [hB1' (by simp at h0; omega)] at h; have := HV.out.lt (by have := HN.out; simp at h0; omega) _ (by rw [HN.out]; exact h); have := HD.out; omega) (by have := HN.out; simp; omega) (by have := HN.out; simp; omega) (HG.out.upd hU (by simp)) (by omega)).mono ?_; rintro e2 w3 ⟨⟨y, rfl⟩, hD3, hU3⟩))
        have ej : m.take a ++ (m.take n).drop a = m := by
          have := List.take_append_drop a (m.take n)
          rw [List.take_take, Nat.min_eq_left (by omega)] at this
          rw [this]
          exact List.take_of_length_le (by have := HN.out; omega)
        rw [ej] at hD3
        have hU4 : Upd [] w w3 := hU.trans' hU3 (fun i hi hlt => by simp at hi; have := HD.out; omega)
        have hdi : ∀ W, Upd [] w3 W → DigOf256 W D m := fun W h => hD3.upd h (by simp)
        have hgg : ∀ W, Upd [] w3 W → Gl256 W ∧ GlFirst256 W := fun W h => ⟨(HG.out.upd hU4 (by simp)).upd h (by simp), (HF.out.upd hU4 (by simp)).upd h (by simp)⟩
        have HDI := Lib.hid hdi
        have HGG := Lib.hid hgg
        obtain ⟨H, hH⟩ : ∃ H, sha256 m = H := ⟨_, rfl⟩
        have hHl : H.length = 32 := by rw [← hH]; exact sha256_length m
        have hq := fun w => eql_h32 H H hHl hHl w
        rw [show (H == H) = true by simp] at hq
        have hqg := guard_h32
        have hs1 := fun w h1 h2 => digsum256 w D m h1 (by have := HN.out; omega) h2
        have hs2 := fun w v h1 h2 h3 => sum256 w v m h1 (by have := HN.out; omega) h2 h3
        rw [hH] at hs1 hs2
        have HS1 := Lib.hid hs1
        have HS2 := Lib.hid hs2
        have HLEN : Hid (∀ W, DigOf256 W D m → Calls Tryd.prog 31 #[.pointer (some ⟨D, 0, none⟩)] W fun e w' => e = .returned (U64 (BitVec.ofNat 64 n)) ∧ W = w') := fun W h => by
          obtain ⟨s, r, h1, _⟩ := h
          rw [HN.out] at h1
          exact len256 W D s r _ h1
        clear hU3 hB1 hB1' ej hDg hdi hgg hH hs1 hs2 hHl hD3
        go_wp2_with (first
          | (go_at_call 30; refine (HS1.out _ (HDI.out _ (Upd.refl _ _)) (HGG.out _ (Upd.refl _ _)).1).mono ?_; rintro e4 w4 ⟨rfl, hU5⟩)
          | (go_at_call 20; refine (HS2.out _ _ (by have := ((HV.out.upd0 hU4).upd0 hU5); rwa [HN.out] at this) (HGG.out _ hU5).1 (HGG.out _ hU5).2).mono ?_; rintro e5 w5 ⟨rfl, hU6⟩)
          | (go_at_call 31; refine (HLEN.out _ (HDI.out _ (hU5.trans hU6))).mono ?_; rintro e6 w6 ⟨rfl, rfl⟩)
          | (go_at_call 25; refine (known256 _ (HGG.out _ (hU5.trans hU6)).1 (HGG.out _ (hU5.trans hU6)).2).mono ?_; rintro e7 w7 ⟨rfl, hU7⟩))
        go_ret
        exact ⟨rfl, ((hU4.trans hU5).trans hU6).trans hU7⟩
      · have hki : ¬ (k : Int) < (nc : Int) := by omega
        clear hlt
        go_upto_region 16 with (first
          | (refine cut_bytes rfl _ (some _) none rfl A n cap (by rfl) m (by have := (HV.out.upd0 hU); rwa [HN.out] at this) a n (.inr (by rfl)) (.inl ⟨by rfl, rfl⟩) (by omega) (by omega) ?_; intro B1 hB1 hB1')
          | (go_at_call 29; refine (write256 _ _ _ (m.take a) ((m.take n).drop a) hDg hB1 (by intro h0 h; rw [hB1' (by simp at h0; omega)] at h; have := HV.out.lt (by have := HN.out; simp at h0; omega) _ (by rw [HN.out]; exact h); have := HD.out; omega) (by have := HN.out; simp; omega) (by have := HN.out; simp; omega) (HG.out.upd hU (by simp)) (by omega)).mono ?_; rintro e2 w3 ⟨⟨y, rfl⟩, hD3, hU3⟩))
        have ej : m.take a ++ (m.take n).drop a = m := by
          have := List.take_append_drop a (m.take n)
          rw [List.take_take, Nat.min_eq_left (by omega)] at this
          rw [this]
          exact List.take_of_length_le (by have := HN.out; omega)
        rw [ej] at hD3
        have hU4 : Upd [] w w3 := hU.trans' hU3 (fun i hi hlt => by simp at hi; have := HD.out; omega)
        have hdi : ∀ W, Upd [] w3 W → DigOf256 W D m := fun W h => hD3.upd h (by simp)
        have hgg : ∀ W, Upd [] w3 W → Gl256 W ∧ GlFirst256 W := fun W h => ⟨(HG.out.upd hU4 (by simp)).upd h (by simp), (HF.out.upd hU4 (by simp)).upd h (by simp)⟩
        have HDI := Lib.hid hdi
        have HGG := Lib.hid hgg
        obtain ⟨H, hH⟩ : ∃ H, sha256 m = H := ⟨_, rfl⟩
        have hHl : H.length = 32 := by rw [← hH]; exact sha256_length m
        have hq := fun w => eql_h32 H H hHl hHl w
        rw [show (H == H) = true by simp] at hq
        have hqg := guard_h32
        have hs1 := fun w h1 h2 => digsum256 w D m h1 (by have := HN.out; omega) h2
        have hs2 := fun w v h1 h2 h3 => sum256 w v m h1 (by have := HN.out; omega) h2 h3
        rw [hH] at hs1 hs2
        have HS1 := Lib.hid hs1
        have HS2 := Lib.hid hs2
        have HLEN : Hid (∀ W, DigOf256 W D m → Calls Tryd.prog 31 #[.pointer (some ⟨D, 0, none⟩)] W fun e w' => e = .returned (U64 (BitVec.ofNat 64 n)) ∧ W = w') := fun W h => by
          obtain ⟨s, r, h1, _⟩ := h
          rw [HN.out] at h1
          exact len256 W D s r _ h1
        clear hU3 hB1 hB1' ej hDg hdi hgg hH hs1 hs2 hHl hD3
        go_wp2_with (first
          | (go_at_call 30; refine (HS1.out _ (HDI.out _ (Upd.refl _ _)) (HGG.out _ (Upd.refl _ _)).1).mono ?_; rintro e4 w4 ⟨rfl, hU5⟩)
          | (go_at_call 20; refine (HS2.out _ _ (by have := ((HV.out.upd0 hU4).upd0 hU5); rwa [HN.out] at this) (HGG.out _ hU5).1 (HGG.out _ hU5).2).mono ?_; rintro e5 w5 ⟨rfl, hU6⟩)
          | (go_at_call 31; refine (HLEN.out _ (HDI.out _ (hU5.trans hU6))).mono ?_; rintro e6 w6 ⟨rfl, rfl⟩)
          | (go_at_call 25; refine (known256 _ (HGG.out _ (hU5.trans hU6)).1 (HGG.out _ (hU5.trans hU6)).2).mono ?_; rintro e7 w7 ⟨rfl, hU7⟩))
        go_ret
        exact ⟨rfl, ((hU4.trans hU5).trans hU6).trans hU7⟩
end Go.Proofs.YtdejiachopiaaaaDoor
