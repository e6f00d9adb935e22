/-
  Root of a tree.
-/
import Derived.Test.YtdfoffheolbokaaDoorTree
namespace Go.Proofs.YtdfoffheolbokaaDoor
open Go Go.RowKit Go.Proofs
theorem quiet_of_yields {P : Program} {C : World → Prop} {a : Act} {o : Oper} {v : Value} (h : ∀ w, C w → (execOp a.eval o).run P w = .ok (.value v) w) : ∀ w, C w → o.quietAt P a C w v := by
  intro w hw
  unfold Oper.quietAt
  rw [h w hw]
  exact ⟨rfl, rfl⟩
set_option maxRecDepth 100000 in
set_option maxHeartbeats 6400000 in
theorem troot_ (w : World) (bt : Nat) (pv : Value) (l : List H8) (h : TreeAt w bt pv l) (hln : l.length ≤ 65536) (hg : Gl256 w) (hf : GlFirst256 w) :
    Calls Tryd.prog 13 #[.pointer (some ⟨bt, 0, none⟩)] w fun e w' => e = .returned (.agg ((rootOf l).map U8).toArray) ∧ Upd [] w w' := by
  obtain ⟨hll, S, hP, hh, hO⟩ := h
  have hRl := rootOf_length l hll
  have hKl := peaks_bound hP
  have hPr := hP.root
  obtain ⟨A, cap, e⟩ := hO.isSlice
  obtain ⟨K, hK⟩ : ∃ K, S.length = K := ⟨_, rfl⟩
  rw [hK] at e hKl
  rw [e] at hh hO
  have HSN : Hid (∀ W, Upd [] w W → Calls Tryd.prog 17 #[.slice none 0 0] W fun e w' => e = .returned (.agg ((sha256 []).map U8).toArray) ∧ Upd [] W w') := fun W hW => sum256 W _ [] (RdB.nil W) (by simp) (hg.upd hW (by simp)) (hf.upd hW (by simp))
  have HND : Hid (∀ W (x y : H8), x.length = 32 → y.length = 32 → Upd [] w W → Calls Tryd.prog 20 #[.agg (x.map U8).toArray, .agg (y.map U8).toArray] W fun e w' => e = .returned (.agg ((nodeH x y).map U8).toArray) ∧ Upd [] W w') := fun W x y hx hy hW => node_ W x y hx hy (hg.upd hW (by simp)) (hf.upd hW (by simp))
  by_cases h0 : K = 0
  · subst h0
    have hS : S = [] := List.eq_nil_of_length_eq_zero hK
    have hR : rootOf l = sha256 [] := by rw [← hPr, hS]; rfl
    rw [hR] at hRl ⊢
    obtain ⟨R, hRe⟩ : ∃ R, sha256 [] = R := ⟨_, rfl⟩
    rw [hRe] at hRl HSN ⊢
    have hs := szrow hRl
    have ho := sameZ hRl
    have ha := oneAll R
    obtain ⟨cR, hcR⟩ : ∃ c, (R.map U8).toArray = c := ⟨_, rfl⟩
    rw [hcR] at hs ho ha HSN ⊢
    clear hO hK hPr hR hRe hcR hS hP hRl hll
    go_enter Tryd.func13, Tryd.ntmps13
    go_wp2_with (with_reducible refine arm_alloc (zero_h32 _) ?_)
    intro b2 w2 hb2 k2 hU2 hz2
    change w2.heap[b2]? = some (.cells (zrow8 32) 27 (0, 0)) at k2
    have hh2 := hU2.heap hh (by simp)
    have hc : w2.cell? ⟨bt, 0, none⟩ = some (.slice A 0 cap) := by rw [cell_of_row _ _ _ _ _ _ hh2]; rfl
    go_wp2_with (fail)
    with_reducible refine (HSN.out _ hU2).mono ?_
    rintro e w3 ⟨rfl, hU3⟩
    have k3 := hU3.heap k2 (by simp)
    go_wp2_with (with_reducible refine arm_store (by with_unfolding_all exact rfl) (by with_unfolding_all exact rfl) k3 hs ho ha ?_)
    intro w4 k4 hX4 hz4
    go_wp2_with (fail)
    refine bodyPost_ret (v := .agg cR) (results_cell_row rfl _ _ b2 27 _ (0, 0) _ rfl k4 Tryd.underlying27 rfl hs) rfl ⟨rfl, ?_⟩
    exact (hU2.trans hU3).trans' hX4 (fun i hm hi => by simp at hm; omega)
  · obtain ⟨r, hr⟩ : ∃ r, K = r + 1 := ⟨K - 1, by omega⟩
    obtain ⟨g, cap', eA, hgb, hgl, _, _⟩ := hO.at (by omega)
    injection eA with eA eA2 eA3
    subst eA
    have hrS : r < S.length := by omega
    have hel := hO.elem r hrS
    have hl0 : (rootOfPeaks (S.drop r)) = rootOf S[r] := rootOfPeaks_last S r (by omega)
    have h32 := hO.1 _ (List.getElem_mem hrS)
    rw [← hl0] at hel h32
    have HDL : Hid (∀ j, j ≤ r → (rootOfPeaks (S.drop j)).length = 32) := fun j hj => by
      by_cases hjr : j = r
      · subst hjr; exact h32
      · rw [rootOfPeaks_drop S j (by omega)]; exact nodeH_length _ _
    have h0r : rootOfPeaks (S.drop 0) = rootOf l := by rw [List.drop_zero]; exact hPr
    rw [← h0r]
    have HSK := Lib.hid hK
    have HO := Lib.hid hO
    have k1' : (K : Int) - 1 = (r : Int) := by omega
    have k2' : (K : Int) - 2 = (r : Int) - 1 := by omega
    have k3' : (r : Int) < (K : Int) := by omega
    have k4' : (K : Int) ≤ 65536 := by omega
    have k5' : ((K : Int) == 0) = false := by simp; omega
    have k6' : r < K := by omega
    have hs := szrow h32
    have ho := sameZ h32
    have ha := oneAll (rootOfPeaks (S.drop r))
    have hsl := szlist h32
    have hrg := hel.2
    obtain ⟨H, hH⟩ : ∃ H, rootOfPeaks (S.drop r) = H := ⟨_, rfl⟩
    rw [hH] at hs ho ha hsl hrg
    have HH := Lib.hid hH
    obtain ⟨lH, hlH⟩ : ∃ c, H.map U8 = c := ⟨_, rfl⟩
    rw [hlH] at hs ho ha hsl hrg
    have HLH := Lib.hid hlH
    have HH0 := Lib.hid hh
    clear hel hl0 h32 h0r hK hO hPr hP hRl hll hlH hH eA2 eA3 hr
    go_enter Tryd.func13, Tryd.ntmps13
    go_wp2_with (with_reducible refine arm_alloc (zero_h32 _) ?_)
    intro b2 w2 hb2 k2 hU2 hz2
    change w2.heap[b2]? = some (.cells (zrow8 32) 27 (0, 0)) at k2
    have hh2 := hU2.heap hh (by simp)
    have hc : w2.cell? ⟨bt, 0, none⟩ = some (.slice (some ⟨g, 0, none⟩) K cap) := by rw [cell_of_row _ _ _ _ _ _ hh2]; rfl
    have hrg2 : w2.rangeAt g (r * 33 + 1) lH := fun j v hj => hU2.cell (hrg j v hj) (by simp)
    go_wp2_with (first
      | (with_reducible refine arm_load_mid (g := g) (k := r * 33 + 1) (by with_unfolding_all exact rfl) hrg2 Tryd.underlying27 rfl hsl ?_)
      | (with_reducible refine arm_alloc (zero_h32 _) ?_))
    intro b4 w4 hb4 k4 hU4 hz4
    change w4.heap[b4]? = some (.cells (zrow8 32) 27 (0, 0)) at k4
    go_wp2_with (with_reducible refine arm_store (by with_unfolding_all exact rfl) (by with_unfolding_all exact rfl) k4 hs ho ha ?_)
    intro w5 k5 hX5 hz5
    have hU5 := hU4.fresh hb4 hX5
    have k25 := hU5.heap k2 (by simp)
    have hV5 := hU2.trans hU5
    have hne : b2 ≠ b4 := by have := lt_of_heap k2; omega
    have hlb4 : w.heap.size ≤ b4 := by have := hU2.size; omega
    have hlb2 : w.heap.size ≤ b2 := by omega
    have HK5 : Hid (w5.heap[b4]? = some (.cells ((rootOfPeaks (S.drop r)).map U8).toArray 27 (0, 0))) := by
      show w5.heap[b4]? = _
      rw [HH.out, HLH.out]; exact k5
    have HK25 := Lib.hid k25
    have HV5 := Lib.hid hV5
    clear hb2 k2 hU2 hz2 hh2 hc hrg2 hb4 k4 hU4 hz4 k5 hX5 hz5 hU5 k25 hV5 hs ho ha hsl hrg HH HLH hh
    go_wp2_with (fail)
    go_loopw [5] (fun iv wr => ∃ k : Nat, k ≤ r ∧ iv = .int .i64 ((k : Int) - 1) ∧ wr.heap[b4]? = some (.cells ((rootOfPeaks (S.drop k)).map U8).toArray 27 (0, 0)) ∧ Upd [b4] w5 wr) (fun iv _ => (intOf iv + 1).toNat)
    case atStart => exact ⟨r, Nat.le_refl _, rfl, HK5.out, Upd.refl _ _⟩
    case round =>
      obtain ⟨k, hk, rfl, k4, hU⟩ := hrel
      have HU := Lib.hid hU
      obtain ⟨wo, rfl⟩ : ∃ wo : World, wo = wr := ⟨_, rfl⟩
      have hV : Upd [] w wo := HV5.out.trans' hU (fun i hm hi => by simp at hm; omega)
      have HV := Lib.hid hV
      clear hU hV
      rcases k with _ | j
      · rw [show (((0 : Nat) : Int) - 1) = -1 by rfl]
        have hFl := HDL.out 0 (by omega)
        obtain ⟨F, hF⟩ : ∃ F, rootOfPeaks (S.drop 0) = F := ⟨_, rfl⟩
        rw [hF] at k4 hFl
        have HF0 := Lib.hid hF
        have hs := szrow hFl
        have ho := sameZ hFl
        have ha := oneAll F
        obtain ⟨cF, hcF⟩ : ∃ c, (F.map U8).toArray = c := ⟨_, rfl⟩
        rw [hcF] at k4 hs ho ha
        have HCF := Lib.hid hcF
        have k2 := HU.out.heap HK25.out (by simpa using hne)
        clear hF hcF hFl
        go_wp2_with (first
          | (with_reducible refine arm_load (by with_unfolding_all exact rfl) k4 Tryd.underlying27 (by with_unfolding_all exact rfl) hs ?_)
          | (with_reducible refine arm_store (by with_unfolding_all exact rfl) (by with_unfolding_all exact rfl) k2 hs ho ha ?_))
        intro w6 k6 hX6 hz6
        go_wp2_with (fail)
        refine bodyPost_ret (v := .agg cF) (results_cell_row rfl _ _ b2 27 _ (0, 0) _ rfl k6 Tryd.underlying27 rfl hs) rfl ⟨by rw [HF0.out, HCF.out], ?_⟩
        exact HV.out.trans' hX6 (fun i hm hi => by simp at hm; omega)
      · rw [show (((j + 1 : Nat) : Int) - 1) = (j : Int) by omega]
        have hjK : (j : Int) < (K : Int) := by omega
        have hjn : j < K := by omega
        have hjS : j < S.length := by rw [HSK.out]; exact hjn
        have hOw := HO.out.upd0 HV.out
        obtain ⟨_, hrj⟩ := hOw.elem j hjS
        have hxl := HO.out.1 _ (List.getElem_mem hjS)
        have hyl := HDL.out (j + 1) hk
        have hst := rootOfPeaks_drop S j (by rw [HSK.out]; omega)
        have hHl := HDL.out j (by omega)
        obtain ⟨x, hx⟩ : ∃ x, rootOf S[j] = x := ⟨_, rfl⟩
        obtain ⟨y, hy⟩ : ∃ x, rootOfPeaks (S.drop (j + 1)) = x := ⟨_, rfl⟩
        obtain ⟨H2, hH2⟩ : ∃ H, rootOfPeaks (S.drop j) = H := ⟨_, rfl⟩
        rw [hx] at hrj hxl hst
        rw [hy] at k4 hyl hst
        rw [hH2] at hst hHl
        have HN : Hid (∀ W, Upd [] wo W → Calls Tryd.prog 20 #[.agg (x.map U8).toArray, .agg (y.map U8).toArray] W fun e w' => e = .returned (.agg (H2.map U8).toArray) ∧ Upd [] W w') := fun W hW => by
          rw [hst]; exact HND.out W x y hxl hyl (HV.out.trans hW)
        have hs1 := szrow hyl
        have hs2 := szrow hHl
        have ho2 : ((y.map U8).toArray).size = ((H2.map U8).toArray).size := by simp [hyl, hHl]
        have ha2 := oneAll H2
        have hsx := szlist hxl
        obtain ⟨lx, hlx⟩ : ∃ l, x.map U8 = l := ⟨_, rfl⟩
        obtain ⟨c1, hc1⟩ : ∃ c, (y.map U8).toArray = c := ⟨_, rfl⟩
        obtain ⟨c2, hc2⟩ : ∃ c, (H2.map U8).toArray = c := ⟨_, rfl⟩
        rw [hlx] at hrj hsx HN
        rw [hc1] at k4 hs1 ho2 HN
        rw [hc2] at hs2 ho2 ha2 HN
        have HQ4 : Hid (∀ w', Upd [] wo w' → ∃ t fr, w'.heap[b4]? = some (.cells c1 t fr)) := fun w' h => ⟨_, _, h.heap k4 (by simp)⟩
        have HE : Hid (∀ w', Upd [] wo w' → w'.rangeAt g (j * 33 + 1) lx) := fun w' h i v hi => h.cell (hrj i v hi) (by simp)
        have HCT : Hid (∀ w', Upd [] wo w' → w'.cell? ⟨bt, 0, none⟩ = some (.slice (some ⟨g, 0, none⟩) K cap)) := fun w' h => by
          have := (HV.out.trans h).heap HH0.out (by simp)
          rw [cell_of_row _ _ _ _ _ _ this]; rfl
        have HC2 := Lib.hid (show ((rootOfPeaks (S.drop j)).map U8).toArray = c2 by rw [hH2, hc2])
        have HK4 := Lib.hid k4
        clear hOw hrj hxl hyl hst hHl hx hy hH2 hlx hc1 hc2 k4
        go_wp2_with (fail)
        refine wp_region_quiet_tail 10 (Upd [] wo) (by kernel_rfl) (by kernel_rfl) (Upd.refl _ _).drew ?_
        simp only [List.take_succ_cons, List.take_zero, List.drop_succ_cons, List.drop_zero]
        repeat (first
          | (refine wpQuiet_valK rfl (quiet_of_yields (yields_cell (p := ⟨bt, 0, none⟩) rfl HCT.out Tryd.underlying67 rfl)) (fun K hK => ?_); go_simp; refine hK _ ?_; clear hK K)
          | (refine wpQuiet_valK rfl (quiet_load_row 27 _ rfl b4 rfl _ HQ4.out Tryd.underlying27 rfl hs1) (fun K hK => ?_); go_simp; refine hK _ ?_; clear hK K)
          | (refine wpQuiet_valK rfl (quiet_load_mid 27 _ rfl g (j * 33 + 1) rfl _ HE.out Tryd.underlying27 rfl hsx) (fun K hK => ?_); go_simp; refine hK _ ?_; clear hK K)
          | go_big_quiet_step ((intro hw2; first
              | rfl
              | ((with_reducible refine (HN.out _ hw2).mono ?_); exact fun e w' h => ⟨h.1, hw2.trans h.2⟩)
              )))
        refine wpQuiet_nil ?_
        intro w15 hU15
        have k15 := hU15.heap HK4.out (by simp)
        go_wp2_with (with_reducible refine arm_store (by with_unfolding_all exact rfl) (by with_unfolding_all exact rfl) k15 hs2 ho2 ha2 ?_)
        intro w16 k16 hX16 hz16
        have hT16 := (HU.out.trans (Upd.of0 (T := [b4]) hU15)).trans hX16
        have K16 := Lib.hid k16
        have HT16 := Lib.hid hT16
        clear k16 hX16 hz16 hT16 k15 hU15
        go_wp2_with (fail)
        go_roundw
        case rel => exact ⟨j, by omega, by go_num, by rw [HC2.out]; exact K16.out, HT16.out⟩
        case measure => first | (simp [intOf]; done) | (simp [intOf]; omega)
end Go.Proofs.YtdfoffheolbokaaDoor
