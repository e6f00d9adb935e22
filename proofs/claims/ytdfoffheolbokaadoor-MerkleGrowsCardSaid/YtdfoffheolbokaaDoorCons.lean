/-
  Consistency: the bridge from a beginning to the whole.
-/
import Derived.Test.YtdfoffheolbokaaDoorIncl
namespace Go.Proofs.YtdfoffheolbokaaDoor
open Go Go.RowKit Go.Proofs
set_option maxRecDepth 100000 in
set_option maxHeartbeats 3200000 in
theorem consistency_bad (w : World) (A : Option Addr) (n c : Nat) (i : Int) (hbad : 65536 < n ∨ i < 0 ∨ (n : Int) < i) :
    Calls Tryd.prog 26 #[.slice A n c, .int .i64 i] w fun e w' => e = .returned (.tuple #[.slice none 0 0, .bool false]) ∧ Upd [] w w' := by
  by_cases h1 : 65536 < n
  · have d1 : (n : Int) > 65536 := by omega
    clear hbad h1
    go_enter Tryd.func26, Tryd.ntmps26
    go_wp2_with (fail)
    go_ret2
    exact ⟨rfl, Upd.refl _ w⟩
  · have d1 : ¬ ((n : Int) > 65536) := by omega
    by_cases h2 : i < 0
    · clear hbad h1
      go_enter Tryd.func26, Tryd.ntmps26
      go_wp2_with (fail)
      go_ret2
      exact ⟨rfl, Upd.refl _ w⟩
    · have h3 : i > (n : Int) := by omega
      clear hbad h1
      go_enter Tryd.func26, Tryd.ntmps26
      go_wp2_with (fail)
      go_ret2
      exact ⟨rfl, Upd.refl _ w⟩
set_option maxRecDepth 100000 in
set_option maxHeartbeats 3200000 in
theorem consistency_zero (w : World) (A : Option Addr) (n c : Nat) (hn : n ≤ 65536) :
    Calls Tryd.prog 26 #[.slice A n c, .int .i64 0] w fun e w' => e = .returned (.tuple #[.slice none 0 0, .bool true]) ∧ Upd [] w w' := by
  have d1 : ¬ ((n : Int) > 65536) := by omega
  go_enter Tryd.func26, Tryd.ntmps26
  go_wp2_with (fail)
  go_ret2
  exact ⟨rfl, Upd.refl _ w⟩
/-- a bridge -/
def bridgeOf (ls : List H8) (m : Nat) : List H8 := (bridgeDown ls m ++ if 0 < lastAt m ls.length then [rootOf ((ls.take m).drop (lastAt m ls.length))] else []).reverse
set_option maxRecDepth 100000 in
set_option maxHeartbeats 6400000 in
theorem consistency_ (w : World) (v : Value) (ls : List H8) (i : Nat) (hv : RdH w v ls) (hn : ls.length ≤ 65536) (h0 : 0 < i) (hi : i ≤ ls.length) (hg : Gl256 w) (hf : GlFirst256 w) :
    Calls Tryd.prog 26 #[v, .int .i64 i] w fun e w' => ∃ u, e = .returned (.tuple #[u, .bool true]) ∧ OwnH w' w.heap.size u (bridgeOf ls i) ∧ Upd [] w w' := by
  obtain ⟨A, c, e, hc1, hc2⟩ := hv.isSlice
  obtain ⟨n, hnn⟩ : ∃ n, ls.length = n := ⟨_, rfl⟩
  rw [hnn] at e hn hi
  rw [e] at hv ⊢
  have HOV : Hid (Calls Tryd.prog 35 #[.slice A n c] w fun e w' => ∃ f, e = .returned f ∧ IsOver w' f ls ∧ Upd [] w w') := over_ w _ ls hv
  have HL32 := Lib.hid hv.1
  have HNN := Lib.hid hnn
  have HG := Lib.hid hg
  have HF := Lib.hid hf
  obtain ⟨B, hB⟩ : ∃ B, w.heap.size = B := ⟨_, rfl⟩
  rw [hB]
  have HB := Lib.hid hB
  have d1 : ¬ ((n : Int) > 65536) := by omega
  have d2 : ¬ ((i : Int) < 0) := by omega
  have d3 : ¬ ((i : Int) > (n : Int)) := by omega
  have d4 : ¬ ((i : Int) = 0) := by omega
  have HPD : Hid ((bridgeDown ls i).length ≤ 65536) := by
    have h1 := bridgeDown_length n ls i hnn h0 hi
    have h2 := wayDown_bd n i h0
    exact (by omega : (bridgeDown ls i).length ≤ 65536)
  have HBO : Hid (bridgeOf ls i = (bridgeDown ls i ++ if 0 < lastAt i n then [rootOf ((ls.take i).drop (lastAt i n))] else []).reverse) := by unfold bridgeOf; rw [hnn]; exact rfl
  clear hv hg hf hnn e hB
  go_enter Tryd.func26, Tryd.ntmps26
  go_wp2_with (fail)
  with_reducible refine HOV.out.mono ?_
  rintro e w1 ⟨f, rfl, hI, hU1⟩
  obtain ⟨b0, q0, rfl, hC⟩ := hI.call
  have HC := Lib.hid hC
  obtain ⟨B1, hB1⟩ : ∃ B, w1.heap.size = B := ⟨_, rfl⟩
  have HB1 := Lib.hid hB1
  have hBB : Hid (B ≤ B1) := by have h1 := hU1.size; have h2 := HB.out; exact (by omega : B ≤ B1)
  clear hI hC hB1
  go_wp2_with (fail)
  go_loopw [7, 8, 9] (fun dv av bv wr => ∃ a b : Nat, ∃ dl : List H8, a < i ∧ i ≤ b ∧ b ≤ n ∧ av = .int .i64 a ∧ bv = .int .i64 b ∧ OwnH wr B1 dv dl ∧ dl ++ bridgeDown ((ls.take b).drop a) (i - a) = bridgeDown ls i ∧ lastAt i n = a + lastAt (i - a) (b - a) ∧ Upd [] w1 wr) (fun _ av bv _ => (intOf bv).toNat - (intOf av).toNat)
  case atStart => exact ⟨0, n, [], by omega, by omega, by omega, rfl, rfl, OwnH.nil _ _, by rw [List.drop_zero, List.take_of_length_le (by rw [HNN.out]; omega)]; rfl, by simp, Upd.refl _ _⟩
  case round =>
    obtain ⟨a, b, dl, ha, hib, hbn, rfl, rfl, hO, hP, hLA, hU⟩ := hrel
    have HLA := Lib.hid hLA
    clear hLA
    have HO := Lib.hid hO
    have HP := Lib.hid hP
    have HU := Lib.hid hU
    obtain ⟨wo, rfl⟩ : ∃ wo : World, wo = wr := ⟨_, rfl⟩
    have hbw : B1 ≤ wo.heap.size := by have := hU.size; have := HB1.out; omega
    clear hO hP hU
    obtain ⟨m, hm⟩ : ∃ m, b - a = m := ⟨_, rfl⟩
    have hm' : (b : Int) - (a : Int) = (m : Int) := by omega
    have HM := Lib.hid hm
    have hsl : ((ls.take b).drop a).length = m := by have := HNN.out; simp; omega
    have HSL := Lib.hid hsl
    by_cases hib' : i < b
    · have h' : ¬ ((i : Int) = (b : Int)) := by omega
      have h : 1 < m := by omega
      have hk1 := halfN_lt h
      have hk0 := halfN_pos m
      have HSP : Hid (∀ W, Calls Tryd.prog 37 #[.int .i64 m] W fun e w' => e = .returned (.int .i64 (halfN m)) ∧ W = w') := fun W => split_ W m h (by omega)
      have HPL : Hid (halfN m < i - a → bridgeDown ((ls.take b).drop a) (i - a) = rootOf ((ls.take (a + halfN m)).drop a) :: bridgeDown ((ls.take b).drop (a + halfN m)) (i - a - halfN m)) := fun hk => by
        have := bridgeDown_left ((ls.take b).drop a) (i - a) (by omega) (by rw [hsl]; omega) (by rw [hsl]; exact hk)
        rwa [hsl, seg_take ls a b _ (by omega), seg_drop] at this
      have HPR : Hid (i - a ≤ halfN m → bridgeDown ((ls.take b).drop a) (i - a) = rootOf ((ls.take b).drop (a + halfN m)) :: bridgeDown ((ls.take (a + halfN m)).drop a) (i - a)) := fun hk => by
        have := bridgeDown_right ((ls.take b).drop a) (i - a) (by omega) (by rw [hsl]; omega) (by rw [hsl]; exact hk)
        rwa [hsl, seg_take ls a b _ (by omega), seg_drop] at this
      have HLL : Hid (halfN m < i - a → lastAt (i - a) m = halfN m + lastAt (i - a - halfN m) (m - halfN m)) := fun hk => lastAt_left _ _ (by omega) (by omega) hk
      have HLR : Hid (i - a ≤ halfN m → lastAt (i - a) m = lastAt (i - a) (halfN m)) := fun hk => lastAt_right _ _ (by omega) (by omega) hk
      obtain ⟨k, hk⟩ : ∃ k, halfN m = k := ⟨_, rfl⟩
      rw [hk] at hk1 hk0 HSP HPL HPR HLL HLR
      obtain ⟨t, ht⟩ : ∃ t, a + k = t := ⟨_, rfl⟩
      rw [ht] at HPL HPR
      have ht' : (a : Int) + (k : Int) = (t : Int) := by omega
      have HT := Lib.hid ht
      have hdl : dl.length ≤ 65536 := by have := HP.out; have := HPD.out; rw [← HP.out] at this; simp at this; omega
      clear hk hm hsl ht
      go_wp2_with (fail)
      with_reducible refine (HSP.out _).mono ?_
      rintro e w2 ⟨rfl, rfl⟩
      by_cases hit : i ≤ t
      · have hit' : (i : Int) ≤ (t : Int) := by omega
        have hR := HC.out wo HU.out t b (by rw [HNN.out]; omega) (by have := HM.out; have := HT.out; omega) (by rw [HNN.out]; omega) (HG.out.upd (hU1.trans HU.out) (by simp)) (HF.out.upd (hU1.trans HU.out) (by simp))
        have hRl : (rootOf ((ls.take b).drop t)).length = 32 := rootOf_length _ (fun x hx => HL32.out x (List.mem_of_mem_take (List.mem_of_mem_drop hx)))
        obtain ⟨R, hRe⟩ : ∃ R, rootOf ((ls.take b).drop t) = R := ⟨_, rfl⟩
        have hP2 := HPR.out (by have := HT.out; omega)
        rw [hRe] at hR hRl hP2
        obtain ⟨cR, hcR⟩ : ∃ c, (R.map U8).toArray = c := ⟨_, rfl⟩
        rw [hcR] at hR
        have HR := Lib.hid hR
        have HCR := Lib.hid hcR
        have HRL := Lib.hid hRl
        have HP2 := Lib.hid hP2
        clear hR hcR hRl hRe hP2
        go_wp2_with (fail)
        with_reducible refine HR.out.mono ?_
        rintro e w3 ⟨rfl, hU3⟩
        have hb3 : B1 ≤ w3.heap.size := by have := hU3.size; omega
        go_wp2_with (with_reducible refine bsH HCR.out HRL.out (by with_unfolding_all exact rfl) ?_)
        intro g4 w4 hg4 k4 hU4
        have hO4 := (HO.out.upd0 hU3).upd0 hU4
        have hb4 : B1 ≤ w4.heap.size := by have := hU4.size; omega
        go_wp2_with (with_reducible refine appendH (by with_unfolding_all exact rfl) (by with_unfolding_all exact rfl) hO4 k4 HRL.out (by omega) hb4 ?_)
        intro v5 w5 hO5 hU5
        have hT5 := ((HU.out.trans hU3).trans hU4).row hU5 (fun g hg => by have := (hO4.lt g hg).1; have := HB1.out; omega)
        go_wp2_with (fail)
        go_roundw
        case rel => exact ⟨a, t, dl ++ [R], ha, hit, by have := HT.out; have := HM.out; omega, rfl, rfl, hO5, by have := HP.out; rw [HP2.out] at this; simpa using this, by have h1 := HLA.out; have h2 := HLR.out (by have := HT.out; omega); rw [HM.out, h2] at h1; rw [h1]; congr 2; have := HT.out; omega, hT5⟩
        case measure => simp [intOf]; have := HT.out; have := HM.out; omega
      · have hit' : ¬ ((i : Int) ≤ (t : Int)) := by omega
        have hR := HC.out wo HU.out a t (by rw [HNN.out]; omega) (by have := HT.out; omega) (by rw [HNN.out]; have := HM.out; have := HT.out; omega) (HG.out.upd (hU1.trans HU.out) (by simp)) (HF.out.upd (hU1.trans HU.out) (by simp))
        have hRl : (rootOf ((ls.take t).drop a)).length = 32 := rootOf_length _ (fun x hx => HL32.out x (List.mem_of_mem_take (List.mem_of_mem_drop hx)))
        obtain ⟨R, hRe⟩ : ∃ R, rootOf ((ls.take t).drop a) = R := ⟨_, rfl⟩
        have hP2 := HPL.out (by have := HT.out; omega)
        rw [hRe] at hR hRl hP2
        obtain ⟨cR, hcR⟩ : ∃ c, (R.map U8).toArray = c := ⟨_, rfl⟩
        rw [hcR] at hR
        have HR := Lib.hid hR
        have HCR := Lib.hid hcR
        have HRL := Lib.hid hRl
        have HP2 := Lib.hid hP2
        clear hR hcR hRl hRe hP2
        go_wp2_with (fail)
        with_reducible refine HR.out.mono ?_
        rintro e w3 ⟨rfl, hU3⟩
        have hb3 : B1 ≤ w3.heap.size := by have := hU3.size; omega
        go_wp2_with (with_reducible refine bsH HCR.out HRL.out (by with_unfolding_all exact rfl) ?_)
        intro g4 w4 hg4 k4 hU4
        have hO4 := (HO.out.upd0 hU3).upd0 hU4
        have hb4 : B1 ≤ w4.heap.size := by have := hU4.size; omega
        go_wp2_with (with_reducible refine appendH (by with_unfolding_all exact rfl) (by with_unfolding_all exact rfl) hO4 k4 HRL.out (by omega) hb4 ?_)
        intro v5 w5 hO5 hU5
        have hT5 := ((HU.out.trans hU3).trans hU4).row hU5 (fun g hg => by have := (hO4.lt g hg).1; have := HB1.out; omega)
        go_wp2_with (fail)
        go_roundw
        case rel => exact ⟨t, b, dl ++ [R], by omega, by omega, hbn, rfl, rfl, hO5, by have := HP.out; rw [HP2.out, show i - a - k = i - t by have := HT.out; omega] at this; simpa using this, by have h1 := HLA.out; have h2 := HLL.out (by have := HT.out; omega); rw [HM.out, h2] at h1; rw [h1, ← Nat.add_assoc, HT.out]; congr 2 <;> (have := HT.out; have := HM.out; omega), hT5⟩
        case measure => simp [intOf]; have := HT.out; have := HM.out; omega
    · obtain rfl : i = b := by omega
      have hb0 := bridgeDown_end ((ls.take i).drop a) (i - a) (by rw [hsl]; omega)
      have hdl : dl = bridgeDown ls i := by have := HP.out; rw [hb0, List.append_nil] at this; exact this
      have hla : lastAt i n = a := by have := HLA.out; rw [lastAt_end _ _ (Nat.le_refl _)] at this; omega
      have h' : (i : Int) = (i : Int) := rfl
      by_cases ha0 : 0 < a
      · have ha0' : (a : Int) > 0 := by omega
        have hR := HC.out wo HU.out a i (by rw [HNN.out]; omega) (by omega) (by rw [HNN.out]; omega) (HG.out.upd (hU1.trans HU.out) (by simp)) (HF.out.upd (hU1.trans HU.out) (by simp))
        have hRl : (rootOf ((ls.take i).drop a)).length = 32 := rootOf_length _ (fun x hx => HL32.out x (List.mem_of_mem_take (List.mem_of_mem_drop hx)))
        have hbo : bridgeOf ls i = (dl ++ [rootOf ((ls.take i).drop a)]).reverse := by rw [HBO.out, hla, if_pos ha0, hdl]
        obtain ⟨R, hRe⟩ : ∃ R, rootOf ((ls.take i).drop a) = R := ⟨_, rfl⟩
        rw [hRe] at hR hRl hbo
        obtain ⟨cR, hcR⟩ : ∃ c, (R.map U8).toArray = c := ⟨_, rfl⟩
        rw [hcR] at hR
        have HR := Lib.hid hR
        have HCR := Lib.hid hcR
        have HRL := Lib.hid hRl
        have HBO2 := Lib.hid hbo
        have hdl6 : dl.length ≤ 65536 := by rw [hdl]; exact HPD.out
        clear hR hcR hRl hRe hbo hdl hb0 hla hsl hm h'
        go_wp2_with (fail)
        with_reducible refine HR.out.mono ?_
        rintro e w3 ⟨rfl, hU3⟩
        have hb3 : B1 ≤ w3.heap.size := by have := hU3.size; omega
        go_wp2_with (with_reducible refine bsH HCR.out HRL.out (by with_unfolding_all exact rfl) ?_)
        intro g4 w4 hg4 k4 hU4
        have hO4 := (HO.out.upd0 hU3).upd0 hU4
        have hb4 : B1 ≤ w4.heap.size := by have := hU4.size; omega
        go_wp2_with (with_reducible refine appendH (by with_unfolding_all exact rfl) (by with_unfolding_all exact rfl) hO4 k4 HRL.out (by omega) hb4 ?_)
        intro v5 w5 hO5 hU5
        have hT5 := ((HU.out.trans hU3).trans hU4).row hU5 (fun g hg => by have := (hO4.lt g hg).1; have := HB1.out; omega)
        have HT := Lib.hid (turned_ w5 v5 _ hO5.rd (by simp; omega))
        have hT5s := hT5.size
        clear hO4 hO5 hU5 k4
        go_wp2_with (fail)
        with_reducible refine HT.out.mono ?_
        rintro e w6 ⟨u, rfl, hOu, hU6⟩
        have hres : OwnH w6 B u (bridgeOf ls i) := by
          rw [HBO2.out]
          exact hOu.mono (fun k hk => by have := (hOu.lt k hk).1; have := hBB.out; have := HB1.out; omega)
        have HRES := Lib.hid hres
        clear hOu hres
        go_wp2_with (fail)
        go_ret2
        exact ⟨_, rfl, HRES.out, (hU1.trans hT5).trans hU6⟩
      · have ha0' : ¬ ((a : Int) > 0) := by omega
        have hbo : bridgeOf ls i = dl.reverse := by rw [HBO.out, hla, if_neg ha0, hdl, List.append_nil]
        have HT := Lib.hid (turned_ wo u7 dl HO.out.rd (by rw [hdl]; have := HPD.out; omega))
        have HBO2 := Lib.hid hbo
        clear hbo hdl hb0 hla hsl hm h'
        go_wp2_with (fail)
        with_reducible refine HT.out.mono ?_
        rintro e w3 ⟨u, rfl, hOu, hU3⟩
        have hres : OwnH w3 B u (bridgeOf ls i) := by
          rw [HBO2.out]
          exact hOu.mono (fun k hk => by have := (hOu.lt k hk).1; have := hBB.out; omega)
        have HRES := Lib.hid hres
        clear hOu hres
        go_wp2_with (fail)
        go_ret2
        exact ⟨_, rfl, HRES.out, (hU1.trans HU.out).trans hU3⟩
end Go.Proofs.YtdfoffheolbokaaDoor
