/-
  CheckInclusion: is a path taken?
-/
import Derived.Test.YtdfoffheolbokaaDoorSides
import Derived.Test.YtdfoffheolbokaaDoorEqHash
import Derived.BigRegion
namespace Go.Proofs.YtdfoffheolbokaaDoor
open Go Go.RowKit Go.Proofs
theorem stepH_length (h : H8) (b : Bool) (p : H8) : (stepH h b p).length = 32 := by unfold stepH; split <;> exact nodeH_length _ _
theorem climbH_len : ∀ (s : List Bool) (q : List H8) (h : H8), h.length = 32 → (climbH h s q).length = 32
  | [], _, h, hh => by simpa [climbH] using hh
  | _ :: _, [], h, hh => by simpa [climbH] using hh
  | b :: s, p :: q, h, _ => by rw [climbH]; exact climbH_len s q _ (stepH_length h b p)
set_option maxRecDepth 100000 in
set_option maxHeartbeats 3200000 in
theorem checkI_bad (w : World) (cl ct : Array Value) (i n : Int) (pv : Value) (hbad : n > 65536 ∨ i < 0 ∨ n ≤ i) :
    Calls Tryd.prog 21 #[.agg cl, .int .i64 i, .int .i64 n, pv, .agg ct] w fun e w' => e = .returned (.bool false) ∧ Upd [] w w' := by
  by_cases h1 : n > 65536
  · clear hbad
    go_enter Tryd.func21, Tryd.ntmps21
    go_wp2_with (fail)
    go_ret
    exact ⟨rfl, ((Upd.refl _ w).alloc _).alloc _⟩
  · by_cases h2 : i < 0
    · clear hbad
      go_enter Tryd.func21, Tryd.ntmps21
      go_wp2_with (fail)
      go_ret
      exact ⟨rfl, ((Upd.refl _ w).alloc _).alloc _⟩
    · have h3 : i ≥ n := by omega
      clear hbad
      go_enter Tryd.func21, Tryd.ntmps21
      go_wp2_with (fail)
      go_ret
      exact ⟨rfl, ((Upd.refl _ w).alloc _).alloc _⟩
set_option maxRecDepth 100000 in
set_option maxHeartbeats 6400000 in
theorem checkI_ (w : World) (leaf root : H8) (i n : Nat) (pv : Value) (P : List H8) (hl : leaf.length = 32) (hr : root.length = 32) (hi : i < n) (hn : n ≤ 65536) (hp : RdH w pv P) (hpl : P.length ≤ 1000000) (hg : Gl256 w) (hf : GlFirst256 w) :
    Calls Tryd.prog 21 #[.agg (leaf.map U8).toArray, .int .i64 i, .int .i64 n, pv, .agg (root.map U8).toArray] w fun e w' => e = .returned (.bool (takenI leaf i n P root)) ∧ Upd [] w w' := by
  obtain ⟨A, c, e, hc1, hc2⟩ := hp.isSlice
  obtain ⟨m, hm⟩ : ∃ m, P.length = m := ⟨_, rfl⟩
  rw [hm] at e hc1 hpl
  rw [e] at hp ⊢
  obtain ⟨S, hS⟩ : ∃ S, sidesDown i n = S := ⟨_, rfl⟩
  have HTK : Hid (takenI leaf i n P root = (S.length == m && climbH leaf S.reverse P == root)) := by
    unfold takenI; rw [hS, hm]; exact rfl
  have HSD : Hid (∀ W, Calls Tryd.prog 36 #[.int .i64 i, .int .i64 n] W fun e w' => ∃ u, e = .returned u ∧ OwnL w' W.heap.size u S.reverse ∧ Upd [] W w') := fun W => by
    have := sides_ W i n hi hn
    rwa [hS] at this
  have HSB : Hid (S.length ≤ 65536) := by have := sidesDown_bd n i; rw [hS] at this; exact (by omega : S.length ≤ 65536)
  have hgl := hg.lt
  have hfl := hf.lt
  have HPLT := Lib.hid (hp.lt)
  have HP := Lib.hid hp
  have HM := Lib.hid hm
  have HG := Lib.hid hg
  have HF := Lib.hid hf
  have HL32 := Lib.hid hl
  have HR32 := Lib.hid hr
  have hsl0 := szrow hl
  have hsr0 := szrow hr
  obtain ⟨L, hL⟩ : ∃ L, S.length = L := ⟨_, rfl⟩
  have hLb : L ≤ 65536 := by have := HSB.out; omega
  have HL := Lib.hid hL
  have d1 : ¬ ((n : Int) > 65536) := by omega
  have d2 : ¬ ((i : Int) < 0) := by omega
  have d3 : ¬ ((i : Int) ≥ (n : Int)) := by omega
  obtain ⟨cl, hcl⟩ : ∃ c, (leaf.map U8).toArray = c := ⟨_, rfl⟩
  obtain ⟨ct, hct⟩ : ∃ c, (root.map U8).toArray = c := ⟨_, rfl⟩
  rw [hcl] at hsl0 ⊢
  rw [hct] at hsr0 ⊢
  have HCL := Lib.hid hcl
  have HCT := Lib.hid hct
  have hgd := guard_h32
  clear hp hg hf hl hr hS hL hcl hct e hm HSB
  go_enter Tryd.func21, Tryd.ntmps21
  go_wp2_with (with_reducible refine arm_box (by with_unfolding_all exact rfl) ?_)
  intro b5 w5 hb5 k5 hU5 hz5
  change w5.heap[b5]? = some (.cells cl 27 (0, 0)) at k5
  go_wp2_with (with_reducible refine arm_box (by with_unfolding_all exact rfl) ?_)
  intro b9 w9 hb9 k9 hU9 hz9
  change w9.heap[b9]? = some (.cells ct 27 (0, 0)) at k9
  have k59 := hU9.heap k5 (by simp)
  have hV9 := hU5.trans hU9
  clear hb5 hz5 hb9 hz9 k5 hU5 hU9
  go_wp2_with (fail)
  with_reducible refine (HSD.out _).mono ?_
  rintro e w10 ⟨u, rfl, hO, hU10⟩
  obtain ⟨ua, uc, hue⟩ := hO.isSlice
  rw [List.length_reverse, HL.out] at hue
  rw [hue] at hO ⊢
  have k5a := hU10.heap k59 (by simp)
  have k9a := hU10.heap k9 (by simp)
  have hV10 := hV9.trans hU10
  clear hue k59 k9 hU10 hV9
  by_cases hlen : L = m
  · subst hlen
    have hne : ((L : Int) != (L : Int)) = false := by simp
    go_wp2_with (first
      | (with_reducible refine arm_load (by with_unfolding_all exact rfl) k5a Tryd.underlying27 (by with_unfolding_all exact rfl) hsl0 ?_)
      | (with_reducible refine arm_alloc (zero_h32 _) ?_))
    intro b12 w12 hb12 k12 hU12 hz12
    change w12.heap[b12]? = some (.cells (zrow8 32) 27 (0, 0)) at k12
    have hol : (zrow8 32).size = cl.size := by rw [← HCL.out]; exact sameZ HL32.out
    have hal : cl.all (·.oneCell') = true := by rw [← HCL.out]; exact oneAll leaf
    go_wp2_with (with_reducible refine arm_store (by with_unfolding_all exact rfl) (by with_unfolding_all exact rfl) k12 hsl0 hol hal ?_)
    intro w13 k13 hX13 hz13
    have hT13 := hU12.fresh hb12 hX13
    have k9b := hT13.heap k9a (by simp)
    have hV13 := hV10.trans hT13
    have hO13 := hO.upd0 hT13
    have hgl12 : w.heap.size ≤ b12 := by have := hV10.size; omega
    have hob12 : ∀ k, (Value.slice ua L uc).ownBlock = some k → k < b12 := fun k hk => by have := (hO.lt k hk).2; omega
    have h912 : b9 < b12 := by have := lt_of_heap k9a; omega
    have HOB := Lib.hid hob12
    have H13 : Hid (w13.heap[b12]? = some (.cells ((climbH leaf (S.reverse.take 0) (P.take 0)).map U8).toArray 27 (0, 0))) := by
      show w13.heap[b12]? = _
      simp only [List.take_zero, climbH]; rw [HCL.out]; exact k13
    have HO13 := Lib.hid hO13
    have HV13 := Lib.hid hV13
    have H9 := Lib.hid k9b
    have HSR : Hid (S.reverse.length = L) := by rw [List.length_reverse]; exact HL.out
    obtain ⟨R, hR⟩ : ∃ R, S.reverse = R := ⟨_, rfl⟩
    rw [hR] at HTK HO13 H13 HSR
    clear hb12 hz12 k12 hU12 k13 hX13 hz13 hT13 hO13 hO k5a k9a hV10 hV13 k9b hob12 hR hol hal hsl0
    go_wp2_with (fail)
    go_loopw [37] (fun iv wr => ∃ q : Nat, q ≤ L ∧ iv = .int .i64 q ∧ wr.heap[b12]? = some (.cells ((climbH leaf (R.take q) (P.take q)).map U8).toArray 27 (0, 0)) ∧ Upd [b12] w13 wr) (fun iv _ => L - (intOf iv).toNat)
    case atStart => exact ⟨0, by omega, rfl, H13.out, Upd.refl _ _⟩
    case round =>
      obtain ⟨q, hq, rfl, k12, hU⟩ := hrel
      have HU := Lib.hid hU
      obtain ⟨wo, rfl⟩ : ∃ wo : World, wo = wr := ⟨_, rfl⟩
      have hV : Upd [] w wo := HV13.out.trans' hU (fun i hm hi => by simp at hm; omega)
      have HV := Lib.hid hV
      clear hU hV
      by_cases h : q < L
      · have h' : (q : Int) < (L : Int) := by omega
        have hqR : q < R.length := by rw [HSR.out]; exact h
        have hqP : q < P.length := by rw [HM.out]; exact h
        have HST := Lib.hid (climbH_take leaf R P q hqR hqP)
        have hHl := climbH_len (R.take q) (P.take q) leaf HL32.out
        have hHl2 := climbH_len (R.take (q + 1)) (P.take (q + 1)) leaf HL32.out
        -- the way's bool
        have hOw : OwnL wo w9.heap.size (.slice ua L uc) R := HO13.out.upd HU.out (fun k hk => by have := HOB.out k hk; simp; omega)
        obtain ⟨ga, capa, hga, _, _, _, _⟩ := hOw.at (by omega)
        injection hga with e1 e2 e3
        subst e1
        have hcb := hOw.cell q hqR
        -- the proof's hash
        have hPw : RdH wo (.slice A L c) P := HP.out.upd0 HV.out
        obtain ⟨g0, p0, c0, e0, _, _, _⟩ := hPw.at (by omega)
        injection e0 with e4 e5 e6
        rw [e4] at hPw ⊢
        have hel := hPw.elem q hqP
        have hxl : (P[q]'hqP).length = 32 := hPw.1 _ (List.getElem_mem hqP)
        obtain ⟨y, hy⟩ : ∃ y, R[q]'hqR = y := ⟨_, rfl⟩
        obtain ⟨x, hx⟩ : ∃ x, P[q]'hqP = x := ⟨_, rfl⟩
        obtain ⟨H, hH⟩ : ∃ H, climbH leaf (R.take q) (P.take q) = H := ⟨_, rfl⟩
        obtain ⟨H2, hH2⟩ : ∃ H, climbH leaf (R.take (q + 1)) (P.take (q + 1)) = H := ⟨_, rfl⟩
        rw [hy] at hcb
        rw [hx] at hel hxl
        rw [hH] at k12 hHl
        rw [hH2] at hHl2
        have hst : H2 = stepH H y x := by have := HST.out; rw [hH2, hH, hy, hx] at this; exact this
        have hs1 := szrow hHl
        have hs2 := szrow hHl2
        have ho12 : ((H.map U8).toArray).size = ((H2.map U8).toArray).size := by simp [hHl, hHl2]
        have ha2 := oneAll H2
        have hsx := szlist hxl
        have HN1 : Hid (y = true → ∀ W, Upd [] wo W → Calls Tryd.prog 20 #[.agg (x.map U8).toArray, .agg (H.map U8).toArray] W fun e w' => e = .returned (.agg (H2.map U8).toArray) ∧ Upd [] W w') := fun hyt W hW => by
          rw [hst, hyt]
          exact node_ W x H hxl hHl (HG.out.upd (HV.out.trans hW) (by simp)) (HF.out.upd (HV.out.trans hW) (by simp))
        have HN2 : Hid (y = false → ∀ W, Upd [] wo W → Calls Tryd.prog 20 #[.agg (H.map U8).toArray, .agg (x.map U8).toArray] W fun e w' => e = .returned (.agg (H2.map U8).toArray) ∧ Upd [] W w') := fun hyt W hW => by
          rw [hst, hyt]
          exact node_ W H x hHl hxl (HG.out.upd (HV.out.trans hW) (by simp)) (HF.out.upd (HV.out.trans hW) (by simp))
        obtain ⟨lx, hlx⟩ : ∃ l, x.map U8 = l := ⟨_, rfl⟩
        obtain ⟨c1, hc1⟩ : ∃ c, (H.map U8).toArray = c := ⟨_, rfl⟩
        obtain ⟨c2, hc2'⟩ : ∃ c, (H2.map U8).toArray = c := ⟨_, rfl⟩
        rw [hlx] at hel hsx HN1 HN2
        rw [hc1] at k12 hs1 ho12 HN1 HN2
        rw [hc2'] at hs2 ho12 ha2 HN1 HN2
        have HQ1 : Hid (∀ w', Upd [] wo w' → ∃ t fr, w'.heap[b12]? = some (.cells c1 t fr)) := fun w' h => ⟨_, _, h.heap k12 (by simp)⟩
        have HE : Hid (∀ w', Upd [] wo w' → w'.rangeAt g0 (p0 + q * 32) lx) := fun w' h j v hj => h.cell (hel j v hj) (by simp)
        have HC2 := Lib.hid (show ((climbH leaf (R.take (q + 1)) (P.take (q + 1))).map U8).toArray = c2 by rw [hH2, hc2'])
        have HK12 := Lib.hid k12
        clear hOw e2 e3 e4 e5 e6 hPw hel hxl hy hx hH hH2 hHl hHl2 hst hlx hc1 hc2' k12
        cases y with
        | true =>
          have HN := Lib.hid (HN1.out rfl)
          clear HN1 HN2
          go_wp2_with (fail)
          refine wp_region_quiet_tail 6 (Upd [] wo) (by kernel_rfl) (by kernel_rfl) (Upd.refl _ _).drew ?_
          simp only [List.take_succ_cons, List.take_zero, List.drop_succ_cons, List.drop_zero]
          repeat (first
            | (refine wpQuiet_val rfl (quiet_load_row 27 _ rfl b12 rfl _ HQ1.out Tryd.underlying27 rfl hs1) ?_)
            | (refine wpQuiet_val rfl (quiet_load_mid 27 _ rfl g0 (p0 + q * 32) rfl _ HE.out Tryd.underlying27 rfl hsx) ?_)
            | (refine wpQuiet_step (fun K hK => ?_)
               go_simp
               first
                 | (refine ⟨_, fun _ _ => rfl, hK _ ?_⟩; clear hK K)
                 | ((with_reducible refine ⟨_, fun w2 hw2 => (HN.out w2 hw2).mono (fun e w' h => ⟨h.1, hw2.trans h.2⟩), hK _ ?_⟩); clear hK K)
                 | (refine hK _ ?_; clear hK K)))
          refine wpQuiet_nil ?_
          intro w15 hU15
          have k15 := hU15.heap HK12.out (by simp)
          go_wp2_with (with_reducible refine arm_store (by with_unfolding_all exact rfl) (by with_unfolding_all exact rfl) k15 hs2 ho12 ha2 ?_)
          intro w16 k16 hX16 hz16
          have hT16 := (HU.out.trans (Upd.of0 (T := [b12]) hU15)).trans hX16
          have K16 := Lib.hid k16
          have HT16 := Lib.hid hT16
          clear k16 hX16 hz16 hT16 k15 hU15
          go_wp2_with (fail)
          go_roundw
          case rel => exact ⟨q + 1, by omega, by go_num, by rw [HC2.out]; exact K16.out, HT16.out⟩
          case measure => simp [intOf]; omega
        | false =>
          have HN := Lib.hid (HN2.out rfl)
          clear HN1 HN2
          go_wp2_with (fail)
          refine wp_region_quiet_tail 6 (Upd [] wo) (by kernel_rfl) (by kernel_rfl) (Upd.refl _ _).drew ?_
          simp only [List.take_succ_cons, List.take_zero, List.drop_succ_cons, List.drop_zero]
          repeat (first
            | (refine wpQuiet_val rfl (quiet_load_row 27 _ rfl b12 rfl _ HQ1.out Tryd.underlying27 rfl hs1) ?_)
            | (refine wpQuiet_val rfl (quiet_load_mid 27 _ rfl g0 (p0 + q * 32) rfl _ HE.out Tryd.underlying27 rfl hsx) ?_)
            | (refine wpQuiet_step (fun K hK => ?_)
               go_simp
               first
                 | (refine ⟨_, fun _ _ => rfl, hK _ ?_⟩; clear hK K)
                 | ((with_reducible refine ⟨_, fun w2 hw2 => (HN.out w2 hw2).mono (fun e w' h => ⟨h.1, hw2.trans h.2⟩), hK _ ?_⟩); clear hK K)
                 | (refine hK _ ?_; clear hK K)))
          refine wpQuiet_nil ?_
          intro w15 hU15
          have k15 := hU15.heap HK12.out (by simp)
          go_wp2_with (with_reducible refine arm_store (by with_unfolding_all exact rfl) (by with_unfolding_all exact rfl) k15 hs2 ho12 ha2 ?_)
          intro w16 k16 hX16 hz16
          have hT16 := (HU.out.trans (Upd.of0 (T := [b12]) hU15)).trans hX16
          have K16 := Lib.hid k16
          have HT16 := Lib.hid hT16
          clear k16 hX16 hz16 hT16 k15 hU15
          go_wp2_with (fail)
          go_roundw
          case rel => exact ⟨q + 1, by omega, by go_num, by rw [HC2.out]; exact K16.out, HT16.out⟩
          case measure => simp [intOf]; omega
      · obtain rfl : q = L := by omega
        have h' : ¬ ((q : Int) < (q : Int)) := by omega
        have hR2 : R.take q = R := List.take_of_length_le (by rw [HSR.out]; omega)
        have hP2 : P.take q = P := List.take_of_length_le (by rw [HM.out]; omega)
        rw [hR2, hP2] at k12
        have hHl := climbH_len R P leaf HL32.out
        have hq1 := fun W => eql_h32 (climbH leaf R P) root hHl HR32.out W
        obtain ⟨F, hF⟩ : ∃ F, climbH leaf R P = F := ⟨_, rfl⟩
        rw [hF] at k12 hHl hq1 HTK
        have hsF := szrow hHl
        rw [HCT.out] at hq1
        obtain ⟨cF, hcF⟩ : ∃ c, (F.map U8).toArray = c := ⟨_, rfl⟩
        rw [hcF] at k12 hq1 hsF
        have k9 := HU.out.heap H9.out (by simp; omega)
        have hLS := HL.out
        obtain ⟨bb, hbb⟩ : ∃ b, (F == root) = b := ⟨_, rfl⟩
        rw [hbb] at hq1 HTK
        have hres : takenI leaf i n P root = bb := by rw [HTK.out, hLS]; simp
        have HRES := Lib.hid hres
        clear hR2 hP2 hF hcF hLS hres hbb hHl
        go_wp2_with (first
          | (with_reducible refine arm_load (by with_unfolding_all exact rfl) k12 Tryd.underlying27 (by with_unfolding_all exact rfl) hsF ?_)
          | (with_reducible refine arm_load (by with_unfolding_all exact rfl) k9 Tryd.underlying27 (by with_unfolding_all exact rfl) hsr0 ?_))
        go_ret
        exact ⟨ret_eq (by rw [HRES.out]; rfl), HV.out⟩
  · have hne : ((L : Int) != (m : Int)) = true := by simp; omega
    have hres : takenI leaf i n P root = false := by rw [HTK.out, HL.out]; simp [hlen]
    have HRES := Lib.hid hres
    clear hres
    go_wp2_with (fail)
    go_ret
    exact ⟨ret_eq (by rw [HRES.out]; rfl), hV10⟩
end Go.Proofs.YtdfoffheolbokaaDoor
