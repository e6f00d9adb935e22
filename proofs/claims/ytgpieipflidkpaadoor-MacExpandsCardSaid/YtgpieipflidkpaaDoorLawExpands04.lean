/-
  The law MacExpands: what is expanded is the chain of keyed hashes, block by block.
-/
import Derived.Test.YtgpieipflidkpaaDoorExpand
namespace Go.Proofs.YtgpieipflidkpaaDoor
open Go Go.RowKit Go.Proofs
theorem cblk_get (key info : List (BitVec 8)) (q i : Nat) (hi : i < 32) : ∀ K, q < K → (cblk key info K)[32 * q + i]? = (tblk key info (q + 1))[i]?
  | 0, h => by omega
  | K + 1, h => by
    rw [cblk]
    by_cases hq : q < K
    · rw [List.getElem?_append_left (by rw [cblk_length]; omega)]
      exact cblk_get key info q i hi K hq
    · obtain rfl : q = K := by omega
      rw [List.getElem?_append_right (by rw [cblk_length]; omega), cblk_length, Nat.add_sub_cancel_left]
theorem expOf_get (key info : List (BitVec 8)) (n q i : Nat) (hi : i < 32) (h : 32 * q + i < n) : (expOf key info n)[32 * q + i]? = (tblk key info (q + 1))[i]? := by
  unfold expOf
  rw [List.getElem?_take, if_pos h]
  exact cblk_get key info q i hi _ (by omega)
theorem ofInt_nat8 (q : Nat) : BitVec.ofInt 8 ((q : Int) + 1) = BitVec.ofNat 8 (q + 1) := by
  rw [show ((q : Int) + 1) = ((q + 1 : Nat) : Int) by omega]; exact BitVec.ofInt_natCast 8 (q + 1)
set_option maxRecDepth 100000 in
set_option maxHeartbeats 6400000 in
theorem law_expands04 (w : World) (iv : Value) (key info : List (BitVec 8)) (n : Int) (hkl : key.length = 32) (hi : RdB w iv info) (hg : Gl256 w) (hf : GlFirst256 w) :
    Calls Tryd.prog 3 #[.agg (key.map U8).toArray, iv, .int .i64 n] w fun x w' => x = .returned (.bool true) ∧ Upd [] w w' := by
  obtain ⟨A, c, e, hc1, hc2⟩ := hi.isSlice
  obtain ⟨ck, hck⟩ : ∃ ck, (key.map U8).toArray = ck := ⟨_, rfl⟩
  have hsk := szrow256 hkl
  rw [hck] at hsk
  by_cases hlong : info.length > 2048
  · obtain ⟨m, hm⟩ : ∃ m, info.length = m := ⟨_, rfl⟩
    rw [e, hm, hck]
    rw [hm] at hlong
    clear hi hg hf e hm hck hc1 hc2
    go_enter Tryd.func3, Tryd.ntmps3
    go_wp2_with (fail)
    go_ret
    exact ⟨rfl, (Upd.refl _ w).alloc _⟩
  by_cases hbad : n < 0 ∨ n > 8160
  · have hE : Hid (∀ W, Calls Tryd.prog 8 #[.agg ck, iv, .int .i64 n] W fun e w' => e = .returned (.tuple #[.slice none 0 0, .bool false]) ∧ Upd [] W w') := fun W => expand_bad W ck iv n hbad
    obtain ⟨m, hm⟩ : ∃ m, info.length = m := ⟨_, rfl⟩
    rw [hm] at e hlong
    rw [e] at hE
    rw [e, hck]
    have hlong' : ¬ ((m : Int) > 2048) := by omega
    have HB := Lib.hid hbad
    clear hi hg hf e hm hck hc1 hc2 hbad
    go_enter Tryd.func3, Tryd.ntmps3
    go_wp2_with (with_reducible refine arm_box (by with_unfolding_all exact rfl) ?_)
    intro b3 w1 hb3 k3 hU1 hz1
    clear hb3 hz1
    change w1.heap[b3]? = some (.cells ck 23 (0, 0)) at k3
    go_wp2_with (first | (with_reducible refine arm_load (by with_unfolding_all exact rfl) (by assumption) Tryd.underlying23 (by with_unfolding_all exact rfl) (by assumption) ?_))
    with_reducible refine (hE.out _).mono ?_
    rintro e w2 ⟨rfl, hU2⟩
    have hV2 := hU1.trans hU2
    clear hU1 hU2 k3
    by_cases c1 : n < 0
    · go_wp2_with (fail)
      go_ret
      exact ⟨rfl, hV2⟩
    · have c2 : n > 8160 := by have := HB.out; omega
      go_wp2_with (fail)
      go_ret
      exact ⟨rfl, hV2⟩
  obtain ⟨n, rfl⟩ : ∃ N : Nat, n = N := ⟨n.toNat, by omega⟩
  have hn : n ≤ 8160 := by omega
  have hil : info.length ≤ 2048 := by omega
  obtain ⟨cN, hN, hNe, hNn⟩ := nilMac w hg hf
  have hgd := guard_h32
  obtain ⟨cz, hcz⟩ : ∃ c, zrow8 32 = c := ⟨_, rfl⟩
  have hbz := built_hash
  rw [hcz] at hNe hNn hbz
  have HN := Lib.hid hN
  have HBZ := Lib.hid hbz
  have HI := Lib.hid hi
  have HG := Lib.hid hg
  have HF := Lib.hid hf
  have HTL := Lib.hid (tblk_le key info)
  have HT1 := Lib.hid (tblk_length key info)
  have HTS : Hid (∀ k, tblk key info (k + 1) = hmac256 key (tblk key info k ++ (info ++ [BitVec.ofNat 8 (k + 1)]))) := fun k => rfl
  have HXG : Hid (∀ q i, i < 32 → 32 * q + i < n → (expOf key info n)[32 * q + i]? = (tblk key info (q + 1))[i]?) := fun q i h1 h2 => expOf_get key info n q i h1 h2
  have HXL := Lib.hid (expOf_length key info n)
  have HE : Hid (∀ W, Upd [] w W → Calls Tryd.prog 8 #[.agg ck, iv, .int .i64 n] W fun e w' => ∃ v, e = .returned (.tuple #[v, .bool true]) ∧ NewB W w' v (expOf key info n) ∧ Upd [] W w') := fun W hW => by
    have := expand_ W iv key info n hkl (HI.out.upd0 hW) (by omega) hn (HG.out.upd hW (by simp)) (HF.out.upd hW (by simp))
    rwa [hck] at this
  have HKL := Lib.hid hkl
  have HRK : Hid (∀ W b T fr, W.heap[b]? = some (.cells ck T fr) → RdB W (.slice (some ⟨b, 0, none⟩) 32 32) key) := fun W b T fr hb => by
    rw [← hck] at hb; exact rd_new256 hb hkl
  obtain ⟨m, hm⟩ : ∃ m, info.length = m := ⟨_, rfl⟩
  rw [hm] at e hil
  rw [e] at HE
  have HIL := Lib.hid hm
  have HIV : Hid (RdB w (.slice A m c) info) := by rw [← e]; exact hi
  rw [e, hck]
  have hil' : (m : Int) ≤ 2048 := by omega
  have hn' : (n : Int) ≤ 8160 := by omega
  obtain ⟨X, hX⟩ : ∃ X, expOf key info n = X := ⟨_, rfl⟩
  rw [hX] at HE HXG HXL
  clear hi hg hf hN hbz hcz e hm hck hc1 hc2 hlong hbad hkl HI hX
  go_enter Tryd.func3, Tryd.ntmps3
  go_wp2_with (with_reducible refine arm_box (by with_unfolding_all exact rfl) ?_)
  intro b3 w1 hb3 k3 hU1 hz1
  obtain ⟨B, hB⟩ : ∃ B, w1.heap.size = B := ⟨_, rfl⟩
  have HB1 : Hid (w.heap.size ≤ B) := by have := hU1.size; show w.heap.size ≤ B; omega
  change w1.heap[b3]? = some (.cells ck 23 (0, 0)) at k3
  have HB := Lib.hid hB
  clear hb3 hz1 hB
  go_wp2_with (first | (with_reducible refine arm_load (by with_unfolding_all exact rfl) (by assumption) Tryd.underlying23 (by with_unfolding_all exact rfl) (by assumption) ?_))
  with_reducible refine (HE.out _ hU1).mono ?_
  rintro e w2 ⟨bv, rfl, hbv, hU2⟩
  have hV2 := hU1.trans hU2
  have k32 := hU2.heap k3 (by simp)
  have hB2 : B ≤ w2.heap.size := by have := hU2.size; have := HB.out; omega
  obtain ⟨bA, bc, be, hb1, hb2⟩ := hbv.1.isSlice
  have hrb := hbv.1
  rw [HXL.out] at be
  rw [be] at hrb ⊢
  have HRB := Lib.hid hrb
  clear hU1 hU2 k3 hbv be hrb
  go_wp2_with (fail)
  go_loopw [9, 10] (fun lv av wr => ∃ q : Nat, 32 * q < n + 32 ∧ av = .int .i64 (32 * q : Nat) ∧ RdB wr lv (tblk key info q) ∧ wr.heap[b3]? = some (.cells ck 23 (0, 0)) ∧ Upd [] w2 wr) (fun _ av _ => n + 32 - (intOf av).toNat)
  case atStart => exact ⟨0, by omega, rfl, RdB.nil _, k32, Upd.refl _ _⟩
  case round =>
    obtain ⟨q, hq, rfl, hL, k3, hV⟩ := hrel
    have HL := Lib.hid hL
    have HV := Lib.hid hV
    clear hL hV
    obtain ⟨wo, rfl⟩ : ∃ wo : World, wo = wr := ⟨_, rfl⟩
    obtain ⟨t, ht⟩ : ∃ t, 32 * q = t := ⟨_, rfl⟩
    rw [ht] at hq ⊢
    have HT := Lib.hid ht
    have hq8 : t ≤ 8191 := by omega
    have hdiv : (t : Int) / 32 = (q : Int) := by omega
    have HDIV := Lib.hid hdiv
    clear hdiv
    by_cases h : t < n
    · have htn : (t : Int) < (n : Int) := by omega
      have hq9 : (q : Int) ≤ 254 := by omega
      obtain ⟨y, hy⟩ : ∃ y, BitVec.ofNat 8 (q + 1) = y := ⟨_, rfl⟩
      obtain ⟨L, hLe⟩ : ∃ L, tblk key info q = L := ⟨_, rfl⟩
      obtain ⟨N, hN⟩ : ∃ N, tblk key info (q + 1) = N := ⟨_, rfl⟩
      have hNe := HTS.out q
      have hNl := HT1.out q
      have hLl := HTL.out q
      rw [hN] at hNe hNl
      rw [hLe, hy] at hNe
      rw [hLe] at HL hLl
      have hyI : BitVec.ofInt 8 ((q : Int) + 1) = y := by rw [ofInt_nat8, hy]
      have hsN := szrow256 hNl
      have hoN := sameZ256 hNl
      have haN : ((N.map U8).toArray).all (·.oneCell') = true := by simp
      have HM : Hid (∀ W v, Upd [] w2 W → W.heap[b3]? = some (.cells ck 23 (0, 0)) → RdB W v (L ++ (info ++ [y])) → Calls Tryd.prog 9 #[.slice (some ⟨b3, 0, none⟩) 32 32, v] W fun e w' => e = .returned (.agg (N.map U8).toArray) ∧ Upd [] W w') := fun W v hW hk hr => by
        have := mac256 W _ v key _ (HRK.out W b3 _ _ hk) hr (by have := HIL.out; simp; omega) (by have := HKL.out; omega) (HG.out.upd (hV2.trans hW) (by simp)) (HF.out.upd (hV2.trans hW) (by simp))
        rwa [← hNe] at this
      have HRN : Hid (∀ (W : World) b T fr, W.heap[b]? = some (.cells (N.map U8).toArray T fr) → RdB W (.slice (some ⟨b, 0, none⟩) 32 32) N) := fun W b T fr hb => rd_new256 hb hNl
      have HCN : Hid (∀ (W : World) b T fr i x, W.heap[b]? = some (.cells (N.map U8).toArray T fr) → N[i]? = some x → W.cell? ⟨b, i, none⟩ = some (U8 x)) := fun W b T fr i x hb hx => by
        rw [cell_of_row _ _ _ _ _ _ hb]; simp [hx]
      obtain ⟨cN', hcN⟩ : ∃ c, (N.map U8).toArray = c := ⟨_, rfl⟩
      rw [hcN] at HM HRN HCN hsN hoN haN
      have HNL := Lib.hid hNl
      have HNN := Lib.hid hN
      have HYI := Lib.hid hyI
      obtain ⟨D, hD⟩ : ∃ D, wo.heap.size = D := ⟨_, rfl⟩
      have hbr : D ≤ wo.heap.size := by omega
      have hbD : b3 < D := by have := lt_of_heap k3; omega
      have HD := Lib.hid hD
      clear hy hLe hN hNe hNl hcN hyI hD
      have hO0 : OwnB wo D (.slice none 0 0) [] := OwnB.nil _ _
      go_upto_region 14 with (refine append_rd rfl _ _ rfl D (.slice none 0 0) [] rfl hO0 u9 L rfl HL.out (by simp; omega) hbr ?_; intro v3 w3 hO3 hO3' hU3 hG3)
      have hT3 : Upd [] wo w3 := by simpa [Value.ownBlock] using hU3
      rw [List.nil_append] at hO3
      have hb3 : D ≤ w3.heap.size := by have := hT3.size; have := HD.out; omega
      have hi3 := HIV.out.upd0 ((hV2.trans HV.out).trans hT3)
      clear hO0 hO3' hU3 hG3
      go_upto_region 15 with (refine append_rd rfl _ _ rfl D v3 L rfl hO3 (.slice A m c) info rfl hi3 (by have := HIL.out; omega) hb3 ?_; intro v4 w4 hO4 hO4' hU4 hG4)
      have hT4 : Upd [] wo w4 := hT3.row hU4 (fun g hg => by have := (hO3.lt g hg).1; have := HD.out; omega)
      clear hT3 hO3 hb3 hi3 hO4' hU4 hG4
      have hdiv := HDIV.out
      have hyI := HYI.out
      go_wp2_with (with_reducible refine bs1 (y := y) (by with_unfolding_all exact rfl) ?_)
      intro g5 w5 hg5 hr5 hU5
      clear hg5 hdiv hyI
      have hO5 := hO4.upd0 hU5
      have hT5 := hT4.trans hU5
      have hb5 : D ≤ w5.heap.size := by have := hT5.size; have := HD.out; omega
      clear hO4 hT4 hU5
      go_upto_region 16 with (refine append_rd rfl _ _ rfl D v4 _ rfl hO5 (.slice (some ⟨g5, 0, none⟩) 1 1) [y] rfl hr5 (by have := HIL.out; simp; omega) hb5 ?_; intro v6 w6 hO6 hO6' hU6 hG6)
      have hT6 : Upd [] wo w6 := hT5.row hU6 (fun g hg => by have := (hO5.lt g hg).1; have := HD.out; omega)
      have hr6 : RdB w6 v6 (L ++ (info ++ [y])) := by have := hO6.rd; rwa [List.append_assoc] at this
      have k36 := hT6.heap k3 (by simp)
      clear hO5 hT5 hr5 hb5 hO6 hO6' hU6 hG6
      go_wp2_with (fail)
      with_reducible refine (HM.out _ _ (HV.out.trans hT6) k36 hr6).mono ?_
      rintro e w7 ⟨rfl, hU7⟩
      have hT7 := hT6.trans hU7
      clear hT6 hU7 hr6 k36
      go_wp2_with (with_reducible refine arm_alloc (zero256 _) ?_)
      intro b8 w8 hb8 hc8 hU8 hz8
      change w8.heap[b8]? = some (.cells (zrow8 32) 23 (0, 0)) at hc8
      clear hz8
      go_wp2_with (with_reducible refine arm_store (by with_unfolding_all exact rfl) (by with_unfolding_all exact rfl) hc8 hsN hoN haN ?_)
      intro w9 k9 hX9 hz9
      have hT9 := hT7.trans (hU8.fresh hb8 hX9)
      clear hU8 hc8 hX9 hz9 hb8 hT7
      have k39 := hT9.heap k3 (by simp)
      obtain ⟨gb, pb, cb, eb, _, _, hby⟩ := HRB.out.at (by rw [HXL.out]; omega)
      rw [HXL.out] at eb
      injection eb with e1 e2 e3
      subst e1 e3
      have HBY := Lib.hid hby
      have HV9 := Lib.hid (HV.out.trans hT9)
      have HK9 := Lib.hid k9
      have HK39 := Lib.hid k39
      have HR9 := Lib.hid (HRN.out _ _ _ _ k9)
      clear hby hT9 k9 k39 e2 k3
      go_wp2_with (fail)
      go_loopw [13] (fun i2 wi => ∃ i : Nat, i ≤ 32 ∧ i2 = .int .i64 i ∧ Upd [] w9 wi) (fun i2 _ => 32 - (intOf i2).toNat)
      case atStart => exact ⟨0, by omega, rfl, Upd.refl _ _⟩
      case round =>
        obtain ⟨i, hi, rfl, hVi⟩ := hrel
        have HVi := Lib.hid hVi
        clear hVi
        by_cases hc1 : i < 32
        · by_cases hc2 : t + i < n
          · have hiN : i < N.length := by rw [HNL.out]; exact hc1
            have hiX : t + i < X.length := by rw [HXL.out]; exact hc2
            have hxg := HXG.out q i hc1 (by rw [HT.out]; exact hc2)
            rw [HT.out, HNN.out, List.getElem?_eq_getElem hiX, List.getElem?_eq_getElem hiN] at hxg
            have c0 := HVi.out.cell (HV9.out.cell (HBY.out (t + i) hiX) (by simp)) (by simp)
            have c1 := HCN.out _ _ _ _ i N[i] (HVi.out.heap HK9.out (by simp)) (by simp [hiN])
            rw [Option.some.inj hxg] at c0
            obtain ⟨x, hx⟩ : ∃ x, N[i] = x := ⟨_, rfl⟩
            rw [hx] at c0 c1
            have hne : (x != x) = false := by simp
            have hi1 : (i : Int) < 32 := by omega
            have hi2 : (t : Int) + (i : Int) < (n : Int) := by omega
            have hi3 : (i : Int) ≤ 32 := by omega
            clear hxg hx hiN hiX
            go_wp2
            go_quiet (skip)
            rename Nat => nq
            go_wp2
            go_roundw
            case rel => exact ⟨i + 1, by omega, by go_num, HVi.out.drewN nq⟩
            case measure => simp [intOf]; omega
          · have hi1 : (i : Int) < 32 := by omega
            have hi2 : ¬ ((t : Int) + (i : Int) < (n : Int)) := by omega
            have hq1 : (t : Int) ≤ 8191 := by omega
            go_wp2
            go_roundw
            case rel => exact ⟨q + 1, by omega, by have := HT.out; go_num, by rw [HNN.out]; exact HR9.out.upd0 HVi.out, HVi.out.heap HK39.out (by simp), HV9.out.trans HVi.out⟩
            case measure => simp [intOf]; omega
        · have hi1 : ¬ ((i : Int) < 32) := by omega
          have hq1 : (t : Int) ≤ 8191 := by omega
          go_wp2
          go_roundw
          case rel => exact ⟨q + 1, by omega, by have := HT.out; go_num, by rw [HNN.out]; exact HR9.out.upd0 HVi.out, HVi.out.heap HK39.out (by simp), HV9.out.trans HVi.out⟩
          case measure => simp [intOf]; omega
    · have htn : ¬ ((t : Int) < (n : Int)) := by omega
      by_cases hn0 : n = 0
      · subst hn0
        go_wp2_with (fail)
        with_reducible refine (HN.out.at _ (hV2.trans HV.out)).mono ?_
        rintro e w5 ⟨rfl, hU5⟩
        go_wp2_with (first | (with_reducible refine arm_build0 HBZ.out ?_) | (with_reducible refine arm_build0_g (by with_unfolding_all exact rfl) HBZ.out ?_))
        go_ret
        exact ⟨rfl, (hV2.trans HV.out).trans hU5⟩
      · have hn1 : ((n : Int) != 0) = true := by simp; omega
        have hn2 : ((n : Int) == 0) = false := by simp; omega
        go_wp2_with (fail)
        go_ret
        exact ⟨rfl, hV2.trans HV.out⟩
end Go.Proofs.YtgpieipflidkpaaDoor
