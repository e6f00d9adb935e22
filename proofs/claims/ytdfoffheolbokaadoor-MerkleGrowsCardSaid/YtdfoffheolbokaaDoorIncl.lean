/-
  Inclusion: the path of a leaf.
-/
import Derived.Test.YtdfoffheolbokaaDoorMRoot
import Derived.Test.YtdfoffheolbokaaDoorTurned
import Derived.Test.YtdfoffheolbokaaDoorMerkle2
namespace Go.Proofs.YtdfoffheolbokaaDoor
open Go Go.RowKit Go.Proofs
theorem seg_take (ls : List H8) (a b k : Nat) (h : k ≤ b - a) : (((ls.take b).drop a).take k) = (ls.take (a + k)).drop a := by
  rw [List.take_drop, List.take_take]
  by_cases h0 : a ≤ b
  · rw [Nat.min_eq_left (by omega)]
  · obtain rfl : k = 0 := by omega
    rw [List.drop_eq_nil_of_le (by simp; omega), List.drop_eq_nil_of_le (by simp; omega)]
theorem seg_drop (ls : List H8) (a b k : Nat) : (((ls.take b).drop a).drop k) = (ls.take b).drop (a + k) := by rw [List.drop_drop]
set_option maxRecDepth 100000 in
set_option maxHeartbeats 3200000 in
theorem inclusion_bad (w : World) (A : Option Addr) (n c : Nat) (i : Int) (hbad : 65536 < n ∨ i < 0 ∨ (n : Int) ≤ i) :
    Calls Tryd.prog 25 #[.slice A n c, .int .i64 i] w fun e w' => e = .returned (.tuple #[.slice none 0 0, .bool false]) ∧ Upd [] w w' := by
  by_cases h1 : 65536 < n
  · have d1 : (n : Int) > 65536 := by omega
    clear hbad h1
    go_enter Tryd.func25, Tryd.ntmps25
    go_wp2_with (fail)
    go_ret2
    exact ⟨rfl, Upd.refl _ w⟩
  · have d1 : ¬ ((n : Int) > 65536) := by omega
    by_cases h2 : i < 0
    · clear hbad h1
      go_enter Tryd.func25, Tryd.ntmps25
      go_wp2_with (fail)
      go_ret2
      exact ⟨rfl, Upd.refl _ w⟩
    · have h3 : i ≥ (n : Int) := by omega
      clear hbad h1
      go_enter Tryd.func25, Tryd.ntmps25
      go_wp2_with (fail)
      go_ret2
      exact ⟨rfl, Upd.refl _ w⟩
set_option maxRecDepth 100000 in
set_option maxHeartbeats 6400000 in
theorem inclusion_ (w : World) (v : Value) (ls : List H8) (i : Nat) (hv : RdH w v ls) (hn : ls.length ≤ 65536) (hi : i < ls.length) (hg : Gl256 w) (hf : GlFirst256 w) :
    Calls Tryd.prog 25 #[v, .int .i64 i] w fun e w' => ∃ u, e = .returned (.tuple #[u, .bool true]) ∧ OwnH w' w.heap.size u (pathDown ls i).reverse ∧ Upd [] w w' := by
  obtain ⟨A, c, e, hc1, hc2⟩ := hv.isSlice
  obtain ⟨n, hnn⟩ : ∃ n, ls.length = n := ⟨_, rfl⟩
  rw [hnn] at e hn hi
  rw [e] at hv ⊢
  have HOV : Hid (Calls Tryd.prog 35 #[.slice A n c] w fun e w' => ∃ f, e = .returned f ∧ IsOver w' f ls ∧ Upd [] w w') := over_ w _ ls hv
  have HL32 := Lib.hid hv.1
  have HNN := Lib.hid hnn
  have HG := Lib.hid hg
  have HF := Lib.hid hf
  obtain ⟨B, hB⟩ : ∃ B, w.heap.size = B := ⟨_, rfl⟩
  rw [hB]
  have HB := Lib.hid hB
  have d1 : ¬ ((n : Int) > 65536) := by omega
  have d2 : ¬ ((i : Int) < 0) := by omega
  have d3 : ¬ ((i : Int) ≥ (n : Int)) := by omega
  have HPD : Hid ((pathDown ls i).length ≤ 65536) := by
    have h1 := pathDown_length n ls i hnn
    have h2 := sidesDown_bd n i
    exact (by omega : (pathDown ls i).length ≤ 65536)
  clear hv hg hf hnn e hB
  go_enter Tryd.func25, Tryd.ntmps25
  go_wp2_with (fail)
  with_reducible refine HOV.out.mono ?_
  rintro e w1 ⟨f, rfl, hI, hU1⟩
  obtain ⟨b0, q0, rfl, hC⟩ := hI.call
  have HC := Lib.hid hC
  obtain ⟨B1, hB1⟩ : ∃ B, w1.heap.size = B := ⟨_, rfl⟩
  have HB1 := Lib.hid hB1
  have hBB : Hid (B ≤ B1) := by have h1 := hU1.size; have h2 := HB.out; exact (by omega : B ≤ B1)
  clear hI hC hB1
  go_wp2_with (fail)
  go_loopw [7, 8, 9] (fun dv av bv wr => ∃ a b : Nat, ∃ dl : List H8, a ≤ i ∧ i < b ∧ b ≤ n ∧ av = .int .i64 a ∧ bv = .int .i64 b ∧ OwnH wr B1 dv dl ∧ dl ++ pathDown ((ls.take b).drop a) (i - a) = pathDown ls i ∧ Upd [] w1 wr) (fun _ av bv _ => (intOf bv).toNat - (intOf av).toNat)
  case atStart => exact ⟨0, n, [], by omega, by omega, by omega, rfl, rfl, OwnH.nil _ _, by rw [List.drop_zero, List.take_of_length_le (by rw [HNN.out]; omega)]; rfl, Upd.refl _ _⟩
  case round =>
    obtain ⟨a, b, dl, ha, hib, hbn, rfl, rfl, hO, hP, hU⟩ := hrel
    have HO := Lib.hid hO
    have HP := Lib.hid hP
    have HU := Lib.hid hU
    obtain ⟨wo, rfl⟩ : ∃ wo : World, wo = wr := ⟨_, rfl⟩
    have hbw : B1 ≤ wo.heap.size := by have := hU.size; have := HB1.out; omega
    clear hO hP hU
    obtain ⟨m, hm⟩ : ∃ m, b - a = m := ⟨_, rfl⟩
    have hm' : (b : Int) - (a : Int) = (m : Int) := by omega
    have HM := Lib.hid hm
    have hsl : ((ls.take b).drop a).length = m := by have := HNN.out; simp; omega
    have HSL := Lib.hid hsl
    by_cases h : 1 < m
    · have h' : (m : Int) > 1 := by omega
      have hk1 := halfN_lt h
      have hk0 := halfN_pos m
      have HSP : Hid (∀ W, Calls Tryd.prog 37 #[.int .i64 m] W fun e w' => e = .returned (.int .i64 (halfN m)) ∧ W = w') := fun W => split_ W m h (by omega)
      have HPL : Hid (halfN m ≤ i - a → pathDown ((ls.take b).drop a) (i - a) = rootOf ((ls.take (a + halfN m)).drop a) :: pathDown ((ls.take b).drop (a + halfN m)) (i - a - halfN m)) := fun hk => by
        have := pathDown_left ((ls.take b).drop a) (i - a) (by rw [hsl]; exact h) (by rw [hsl]; exact hk)
        rwa [hsl, seg_take ls a b _ (by omega), seg_drop] at this
      have HPR : Hid (i - a < halfN m → pathDown ((ls.take b).drop a) (i - a) = rootOf ((ls.take b).drop (a + halfN m)) :: pathDown ((ls.take (a + halfN m)).drop a) (i - a)) := fun hk => by
        have := pathDown_right ((ls.take b).drop a) (i - a) (by rw [hsl]; exact h) (by rw [hsl]; exact hk)
        rwa [hsl, seg_take ls a b _ (by omega), seg_drop] at this
      obtain ⟨k, hk⟩ : ∃ k, halfN m = k := ⟨_, rfl⟩
      rw [hk] at hk1 hk0 HSP HPL HPR
      obtain ⟨t, ht⟩ : ∃ t, a + k = t := ⟨_, rfl⟩
      rw [ht] at HPL HPR
      have ht' : (a : Int) + (k : Int) = (t : Int) := by omega
      have HT := Lib.hid ht
      have hdl : dl.length ≤ 65536 := by have := HP.out; have := HPD.out; rw [← HP.out] at this; simp at this; omega
      clear hk hm hsl ht
      go_wp2_with (fail)
      with_reducible refine (HSP.out _).mono ?_
      rintro e w2 ⟨rfl, rfl⟩
      by_cases hit : i < t
      · have hit' : (i : Int) < (t : Int) := by omega
        have hR := HC.out wo HU.out t b (by rw [HNN.out]; omega) (by have := HM.out; have := HT.out; omega) (by rw [HNN.out]; omega) (HG.out.upd (hU1.trans HU.out) (by simp)) (HF.out.upd (hU1.trans HU.out) (by simp))
        have hRl : (rootOf ((ls.take b).drop t)).length = 32 := rootOf_length _ (fun x hx => HL32.out x (List.mem_of_mem_take (List.mem_of_mem_drop hx)))
        obtain ⟨R, hRe⟩ : ∃ R, rootOf ((ls.take b).drop t) = R := ⟨_, rfl⟩
        have hP2 := HPR.out (by have := HT.out; omega)
        rw [hRe] at hR hRl hP2
        obtain ⟨cR, hcR⟩ : ∃ c, (R.map U8).toArray = c := ⟨_, rfl⟩
        rw [hcR] at hR
        have HR := Lib.hid hR
        have HCR := Lib.hid hcR
        have HRL := Lib.hid hRl
        have HP2 := Lib.hid hP2
        clear hR hcR hRl hRe hP2
        go_wp2_with (fail)
        with_reducible refine HR.out.mono ?_
        rintro e w3 ⟨rfl, hU3⟩
        have hb3 : B1 ≤ w3.heap.size := by have := hU3.size; omega
        go_wp2_with (with_reducible refine bsH HCR.out HRL.out (by with_unfolding_all exact rfl) ?_)
        intro g4 w4 hg4 k4 hU4
        have hO4 := (HO.out.upd0 hU3).upd0 hU4
        have hb4 : B1 ≤ w4.heap.size := by have := hU4.size; omega
        go_wp2_with (with_reducible refine appendH (by with_unfolding_all exact rfl) (by with_unfolding_all exact rfl) hO4 k4 HRL.out (by omega) hb4 ?_)
        intro v5 w5 hO5 hU5
        have hT5 := ((HU.out.trans hU3).trans hU4).row hU5 (fun g hg => by have := (hO4.lt g hg).1; have := HB1.out; omega)
        go_wp2_with (fail)
        go_roundw
        case rel => exact ⟨a, t, dl ++ [R], ha, hit, by have := HT.out; have := HM.out; omega, rfl, rfl, hO5, by have := HP.out; rw [HP2.out] at this; simpa using this, hT5⟩
        case measure => simp [intOf]; have := HT.out; have := HM.out; omega
      · have hit' : ¬ ((i : Int) < (t : Int)) := by omega
        have hR := HC.out wo HU.out a t (by rw [HNN.out]; omega) (by have := HT.out; omega) (by rw [HNN.out]; have := HM.out; have := HT.out; omega) (HG.out.upd (hU1.trans HU.out) (by simp)) (HF.out.upd (hU1.trans HU.out) (by simp))
        have hRl : (rootOf ((ls.take t).drop a)).length = 32 := rootOf_length _ (fun x hx => HL32.out x (List.mem_of_mem_take (List.mem_of_mem_drop hx)))
        obtain ⟨R, hRe⟩ : ∃ R, rootOf ((ls.take t).drop a) = R := ⟨_, rfl⟩
        have hP2 := HPL.out (by have := HT.out; omega)
        rw [hRe] at hR hRl hP2
        obtain ⟨cR, hcR⟩ : ∃ c, (R.map U8).toArray = c := ⟨_, rfl⟩
        rw [hcR] at hR
        have HR := Lib.hid hR
        have HCR := Lib.hid hcR
        have HRL := Lib.hid hRl
        have HP2 := Lib.hid hP2
        clear hR hcR hRl hRe hP2
        go_wp2_with (fail)
        with_reducible refine HR.out.mono ?_
        rintro e w3 ⟨rfl, hU3⟩
        have hb3 : B1 ≤ w3.heap.size := by have := hU3.size; omega
        go_wp2_with (with_reducible refine bsH HCR.out HRL.out (by with_unfolding_all exact rfl) ?_)
        intro g4 w4 hg4 k4 hU4
        have hO4 := (HO.out.upd0 hU3).upd0 hU4
        have hb4 : B1 ≤ w4.heap.size := by have := hU4.size; omega
        go_wp2_with (with_reducible refine appendH (by with_unfolding_all exact rfl) (by with_unfolding_all exact rfl) hO4 k4 HRL.out (by omega) hb4 ?_)
        intro v5 w5 hO5 hU5
        have hT5 := ((HU.out.trans hU3).trans hU4).row hU5 (fun g hg => by have := (hO4.lt g hg).1; have := HB1.out; omega)
        go_wp2_with (fail)
        go_roundw
        case rel => exact ⟨t, b, dl ++ [R], by omega, hib, hbn, rfl, rfl, hO5, by have := HP.out; rw [HP2.out, show i - a - k = i - t by have := HT.out; omega] at this; simpa using this, hT5⟩
        case measure => simp [intOf]; have := HT.out; have := HM.out; omega
    · have h' : ¬ ((m : Int) > 1) := by omega
      have hp0 := pathDown_one ((ls.take b).drop a) (i - a) (by rw [hsl]; omega)
      have hdl : dl = pathDown ls i := by have := HP.out; rw [hp0, List.append_nil] at this; exact this
      have HT := Lib.hid (turned_ wo u7 dl HO.out.rd (by rw [hdl]; have := HPD.out; omega))
      have HDL := Lib.hid hdl
      clear hp0 hdl hsl hm
      go_wp2_with (fail)
      with_reducible refine HT.out.mono ?_
      rintro e w3 ⟨u, rfl, hOu, hU3⟩
      have hres : OwnH w3 B u (pathDown ls i).reverse := by
        rw [← HDL.out]
        exact hOu.mono (fun k hk => by have := (hOu.lt k hk).1; have := hBB.out; omega)
      have HRES := Lib.hid hres
      clear hOu hres
      go_wp2_with (fail)
      go_ret2
      exact ⟨_, rfl, HRES.out, (hU1.trans HU.out).trans hU3⟩
end Go.Proofs.YtdfoffheolbokaaDoor
