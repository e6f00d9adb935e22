/-
  The keyed hash: the closure that keyed makes, over the wide hash.
-/
import Derived.Test.YtgpieipflidkpaaDoorMacKeyed
namespace Go.Proofs.YtgpieipflidkpaaDoor
open Go Go.RowKit Go.Proofs
set_option maxRecDepth 100000 in
set_option maxHeartbeats 6400000 in
theorem keyed512_short (w : World) (kv mv : Value) (key msg : List (BitVec 8)) (b2 b3 b4 : Nat) (h2 : w.cell? ⟨b2, 0, none⟩ = some (.int .i64 128)) (h3 : w.cell? ⟨b3, 0, none⟩ = some (.func (.func 25) #[] #[])) (h4 : w.cell? ⟨b4, 0, none⟩ = some (.func (.func 16) #[] #[]))
    (hk : RdB w kv key) (hm : RdB w mv msg) (hml : msg.length ≤ 100000) (hle : key.length ≤ 128) (hg : Gl512 w) (hf : GlFirst512 w) :
    Calls Tryd.prog 45 #[kv, mv, .pointer (some ⟨b2, 0, none⟩), .pointer (some ⟨b3, 0, none⟩), .pointer (some ⟨b4, 0, none⟩)] w fun e w' => e = .returned (.agg ((hmac512 key msg).map U8).toArray) ∧ Upd [] w w' := by
  obtain ⟨A, c, e, hc1, hc2⟩ := hk.isSlice
  have HM := Lib.hid hm
  have HG := Lib.hid hg
  have HFI := Lib.hid hf
  have l3 := World.block_lt_of_cell? w _ h3
  have l4 := World.block_lt_of_cell? w _ h4
  have hkeq : (if key.length ≤ 128 then key else sha512 key) = key := if_pos hle
  obtain ⟨n, hn⟩ : ∃ n, key.length = n := ⟨_, rfl⟩
  rw [hn] at e
  obtain ⟨kv2, hkv2⟩ : ∃ v, Value.slice A n c = v := ⟨_, rfl⟩
  rw [e] at hk ⊢
  have hn' : (n : Int) ≤ 128 := by omega
  have HK := Lib.hid hk
  have HKV := Lib.hid hkv2
  clear hm hg hf e hk hkv2
  go_enter Tryd.func45, Tryd.ntmps45
  go_wp2_with (with_reducible refine arm_box (by with_unfolding_all exact rfl) ?_)
  intro b5 w1 hb5 k5 hU1 hz1
  change w1.heap[b5]? = some (.cells #[.slice A n c] 24 (0, 0)) at k5
  go_wp2_with (with_reducible refine arm_alloc (zero512 _) ?_)
  intro b7 w2 hb7 k7 hU2 hz2
  change w2.heap[b7]? = some (.cells (zrow8 64) 36 (0, 0)) at k7
  have q5 : w2.cell? ⟨b5, 0, none⟩ = some (.slice A n c) := by rw [cell_of_row _ _ _ _ _ _ (hU2.heap k5 (by simp))]; rfl
  have q2 := hU2.cell (hU1.cell h2 (by simp)) (by simp)
  have q3 := hU2.cell (hU1.cell h3 (by simp)) (by simp)
  have q4 := hU2.cell (hU1.cell h4 (by simp)) (by simp)
  have hV2 := hU1.trans hU2
  have hw1 := hU1.size
  have n3 : b3 ≠ b7 := by change b3 < _ at l3; omega
  have n4 : b4 ≠ b7 := by change b4 < _ at l4; omega
  have hw2 : w.heap.size ≤ b7 := by omega
  have HKK : Hid (RdB w2 (.slice A n c) key) := HK.out.upd0 hV2
  clear hb5 hz1 hb7 hz2 hU1 hU2 k5 h2 h3 h4 hw1 l3 l4
  have hkk : key.length ≤ 128 := hle
  go_upto_region 4 with (fail)
  obtain ⟨H1, hH1⟩ : ∃ H, sha512 (frameOf key 128 0x36 ++ msg) = H := ⟨_, rfl⟩
  obtain ⟨H2, hH2⟩ : ∃ H, sha512 (frameOf key 128 0x5c ++ H1) = H := ⟨_, rfl⟩
  have hl1 : H1.length = 64 := by rw [← hH1]; exact sha512_length _
  have hl2 : H2.length = 64 := by rw [← hH2]; exact sha512_length _
  have hfl1 : (frameOf key 128 0x36).length = 128 := frameOf_length _ _ _ hkk
  have hfl2 : (frameOf key 128 0x5c).length = 128 := frameOf_length _ _ _ hkk
  have HF1 : Hid (∀ W, Upd [] w2 W → Calls Tryd.prog 46 #[.int .u8 54, .pointer (some ⟨b2, 0, none⟩), .pointer (some ⟨b5, 0, none⟩)] W fun e w' => ∃ v, e = .returned v ∧ OwnB w' W.heap.size v (frameOf key 128 0x36) ∧ Upd [] W w') := fun W hW =>
    frame512 W (.slice A n c) key b2 b5 128 0x36 (hW.cell q2 (by simp)) (hW.cell q5 (by simp)) (HKK.out.upd0 hW) hkk (by omega) (by omega)
  have HF2 : Hid (∀ W, Upd [] w2 W → Calls Tryd.prog 46 #[.int .u8 92, .pointer (some ⟨b2, 0, none⟩), .pointer (some ⟨b5, 0, none⟩)] W fun e w' => ∃ v, e = .returned v ∧ OwnB w' W.heap.size v (frameOf key 128 0x5c) ∧ Upd [] W w') := fun W hW =>
    frame512 W (.slice A n c) key b2 b5 128 0x5c (hW.cell q2 (by simp)) (hW.cell q5 (by simp)) (HKK.out.upd0 hW) hkk (by omega) (by omega)
  have HS1 : Hid (∀ W v, Upd [] w2 W → RdB W v (frameOf key 128 0x36 ++ msg) → Calls Tryd.prog 16 #[v] W fun e w' => e = .returned (.agg (H1.map U8).toArray) ∧ Upd [] W w') := fun W v hW hr => by
    have := sum512 W v _ hr (by rw [List.length_append, hfl1]; omega) (HG.out.upd (hV2.trans hW) (by simp)) (HFI.out.upd (hV2.trans hW) (by simp))
    rwa [hH1] at this
  have HS2 : Hid (∀ W v, Upd [] w2 W → RdB W v (frameOf key 128 0x5c ++ H1) → Calls Tryd.prog 16 #[v] W fun e w' => e = .returned (.agg (H2.map U8).toArray) ∧ Upd [] W w') := fun W v hW hr => by
    have := sum512 W v _ hr (by rw [List.length_append, hfl2, hl1]; omega) (HG.out.upd (hV2.trans hW) (by simp)) (HFI.out.upd (hV2.trans hW) (by simp))
    rwa [hH2] at this
  have HJ1 : Hid (∀ W G v1, Upd [] w2 W → W.heap[G]? = some (.cells #[v1, mv] 24 (0, 0)) → RdB W v1 (frameOf key 128 0x36) → Calls Tryd.prog 20 #[.slice (some ⟨G, 0, none⟩) 2 2] W fun e w' => ∃ v, e = .returned v ∧ OwnB w' W.heap.size v (frameOf key 128 0x36 ++ msg) ∧ Upd [] W w') := fun W G v1 hW hk hr =>
    join2 W G v1 mv _ _ _ _ hk hr (HM.out.upd0 (hV2.trans hW)) (by rw [hfl1]; omega)
  have HJ2 : Hid (∀ W G v1 v2, W.heap[G]? = some (.cells #[v1, v2] 24 (0, 0)) → RdB W v1 (frameOf key 128 0x5c) → RdB W v2 H1 → Calls Tryd.prog 20 #[.slice (some ⟨G, 0, none⟩) 2 2] W fun e w' => ∃ v, e = .returned v ∧ OwnB w' W.heap.size v (frameOf key 128 0x5c ++ H1) ∧ Upd [] W w') := fun W G v1 v2 hk h1 h2 =>
    join2 W G v1 v2 _ _ _ _ hk h1 h2 (by rw [hfl2, hl1]; omega)
  have HL1 : Hid (∀ W, Calls Tryd.prog 25 #[.agg (H1.map U8).toArray] W fun e w' => ∃ v, e = .returned v ∧ RdB w' v H1 ∧ Upd [] W w') := fun W => list512 W H1 hl1
  have hs1 := szrow512 hl1
  have ho1 := sameZ512 hl1
  have ha1 : ((H1.map U8).toArray).all (·.oneCell') = true := by simp
  have hs2 := szrow512 hl2
  have ho2 := sameZ512 hl2
  have ha2 : ((H2.map U8).toArray).all (·.oneCell') = true := by simp
  have HEQ : Hid (hmac512 key msg = H2) := by show hmac512 key msg = H2; rw [hmac512, hkeq, hH1, hH2]
  obtain ⟨c1, hc1⟩ : ∃ c, (H1.map U8).toArray = c := ⟨_, rfl⟩
  obtain ⟨c2, hc2⟩ : ∃ c, (H2.map U8).toArray = c := ⟨_, rfl⟩
  have HC2 := Lib.hid hc2
  rw [hc1] at HS1 HL1 hs1 ho1 ha1
  rw [hc2] at HS2 hs2 ho2 ha2
  clear hH1 hH2 hl1 hl2 hfl1 hfl2 hkk hkeq hc1 hc2
  go_cut [9] (fun s9 wx => ∃ b9, s9 = .pointer (some ⟨b9, 0, none⟩) ∧ wx.heap[b9]? = some (.cells c1 36 (0, 0)) ∧ Upd [] w2 wx ∧ b9 ≠ b7)
  case first =>
    refine wp_region_orders [0, 1, 3] (.step 2 (.step 4 (.step 5 (.step 6 (.step 7 (.step 8 .none .none) .none) (.step 7 (.step 6 (.step 8 .none .none) .none) .none)) (.step 7 (.step 5 (.step 6 (.step 8 .none .none) .none) .none) .none)) (.step 7 (.step 4 (.step 5 (.step 6 (.step 8 .none .none) .none) .none) .none) .none)) (.step 7 (.step 2 (.step 4 (.step 5 (.step 6 (.step 8 .none .none) .none) .none) .none) .none) .none)) (Upd [] w2) (by kernel_rfl) (by kernel_rfl) ((Upd.refl _ _).drew) ?_
    refine takeO_cons _ _ rfl rfl (yields_cell rfl (fun w hS => hS.cell q4 (by simp)) Tryd.underlying41 rfl) ?_
    refine takeO_cons _ _ rfl rfl (yields_move rfl) ?_
    refine takeO_cons _ _ rfl rfl (yields_move rfl) ?_
    refine takeO_nil (by simp [Ord.first]) ?_
    refine ordP_step _ (by simp only [List.getElem?_toArray, List.getElem?_cons_succ, List.getElem?_cons_zero]; rfl) ?_ ?_
    · go_wp2_with fail
      with_reducible refine (HF1.out _ (Upd.refl [] w2).drew).mono ?_
      rintro e wx70 ⟨vx70, rfl, hNx70, hUx70⟩
      have hTx70 := (Upd.refl [] w2).drew.trans hUx70
      have hMx70 := hNx70.rd
      go_wp2_with fail
      refine ord_more (by simp [Ord.first]) (hTx70) ?_
      refine ordP_step _ (by simp only [List.getElem?_toArray, List.getElem?_cons_succ, List.getElem?_cons_zero]; rfl) ?_ ?_
      · with_reducible refine bs2 (by with_unfolding_all exact rfl) (by with_unfolding_all exact rfl) (hMx70).cells HM.out.cells ?_
        intro gx76 wx76 hbx76 hNx76 hUx76
        clear hbx76
        have hTx76 := hTx70.trans hUx76
        have hx76_fr := hMx70.upd0 hUx76
        go_wp2_with fail
        refine ord_more (by simp [Ord.first]) (hTx76) ?_
        refine ordP_step _ (by simp only [List.getElem?_toArray, List.getElem?_cons_succ, List.getElem?_cons_zero]; rfl) ?_ ?_
        · go_wp2_with fail
          with_reducible refine (HJ1.out _ _ _ hTx76 hNx76 hx76_fr).mono ?_
          rintro e wx81 ⟨vx81, rfl, hNx81, hUx81⟩
          have hTx81 := hTx76.trans hUx81
          have hx81_fr := hx76_fr.upd0 hUx81
          have hx81_bs := hUx81.heap hNx76 (by simp)
          have hMx81 := hNx81.rd
          go_wp2_with fail
          refine ord_more (by simp [Ord.first]) (hTx81) ?_
          refine ordP_step _ (by simp only [List.getElem?_toArray, List.getElem?_cons_succ, List.getElem?_cons_zero]; rfl) ?_ ?_
          · go_wp2_with fail
            with_reducible refine (HS1.out _ _ hTx81 hMx81).mono ?_
            rintro e wx85 ⟨rfl, hUx85⟩
            have hTx85 := hTx81.trans hUx85
            have hx85_fr := hx81_fr.upd0 hUx85
            have hx85_bs := hUx85.heap hx81_bs (by simp)
            have hx85_jn := hMx81.upd0 hUx85
            go_wp2_with fail
            refine ord_more (by simp [Ord.first]) (hTx85) ?_
            refine ordP_step _ (by simp only [List.getElem?_toArray, List.getElem?_cons_succ, List.getElem?_cons_zero]; rfl) ?_ ordP_none
            with_reducible refine arm_alloc (zero512 _) ?_
            intro gx86 wx86 hbx86 hNx86 hUx86 hzx86
            change wx86.heap[gx86]? = some (.cells (zrow8 64) 36 (0, 0)) at hNx86
            have hlx86 := (hTx85).size
            rw [hbx86] at hlx86
            clear hbx86 hzx86
            have hTx86 := hTx85.trans hUx86
            have hx86_fr := hx85_fr.upd0 hUx86
            have hx86_bs := hUx86.heap hx85_bs (by simp)
            have hx86_jn := hx85_jn.upd0 hUx86
            go_wp2_with fail
            refine ord_more (by simp [Ord.first]) (hTx86) ?_
            refine ordP_step _ (by simp only [List.getElem?_toArray, List.getElem?_cons_succ, List.getElem?_cons_zero]; rfl) ?_ ordP_none
            with_reducible refine arm_store (by with_unfolding_all exact rfl) (by with_unfolding_all exact rfl) hNx86 hs1 ho1 ha1 ?_
            intro wx87 hNx87 hXx87 hzx87
            have hTx87 := (hTx86).trans' hXx87 (fun i hm hi => by have := hlx86; simp at hm; omega)
            go_wp2_with fail
            refine ord_last (hTx87) ?_
            show Exit.then _ _ Exit.normal _ _
            go_wp2_with fail
            go_meet
            exact ⟨_, rfl, hNx87, hTx87, by have h1 := lt_of_heap k7; have h2 : w2.heap.size ≤ _ := hlx86; omega⟩
          · refine ordP_step _ (by simp only [List.getElem?_toArray, List.getElem?_cons_succ, List.getElem?_cons_zero]; rfl) ?_ ordP_none
            with_reducible refine arm_alloc (zero512 _) ?_
            intro gx82 wx82 hbx82 hNx82 hUx82 hzx82
            change wx82.heap[gx82]? = some (.cells (zrow8 64) 36 (0, 0)) at hNx82
            have hlx82 := (hTx81).size
            rw [hbx82] at hlx82
            clear hbx82 hzx82
            have hTx82 := hTx81.trans hUx82
            have hx82_fr := hx81_fr.upd0 hUx82
            have hx82_bs := hUx82.heap hx81_bs (by simp)
            have hx82_jn := hMx81.upd0 hUx82
            go_wp2_with fail
            refine ord_more (by simp [Ord.first]) (hTx82) ?_
            refine ordP_step _ (by simp only [List.getElem?_toArray, List.getElem?_cons_succ, List.getElem?_cons_zero]; rfl) ?_ ordP_none
            go_wp2_with fail
            with_reducible refine (HS1.out _ _ hTx82 hx82_jn).mono ?_
            rintro e wx83 ⟨rfl, hUx83⟩
            have hTx83 := hTx82.trans hUx83
            have hx83_fr := hx82_fr.upd0 hUx83
            have hx83_bs := hUx83.heap hx82_bs (by simp)
            have hx83_jn := hx82_jn.upd0 hUx83
            have hx83_b9 := hUx83.heap hNx82 (by simp)
            go_wp2_with fail
            refine ord_more (by simp [Ord.first]) (hTx83) ?_
            refine ordP_step _ (by simp only [List.getElem?_toArray, List.getElem?_cons_succ, List.getElem?_cons_zero]; rfl) ?_ ordP_none
            with_reducible refine arm_store (by with_unfolding_all exact rfl) (by with_unfolding_all exact rfl) hx83_b9 hs1 ho1 ha1 ?_
            intro wx84 hNx84 hXx84 hzx84
            have hTx84 := (hTx83).trans' hXx84 (fun i hm hi => by have := hlx82; simp at hm; omega)
            go_wp2_with fail
            refine ord_last (hTx84) ?_
            show Exit.then _ _ Exit.normal _ _
            go_wp2_with fail
            go_meet
            exact ⟨_, rfl, hNx84, hTx84, by have h1 := lt_of_heap k7; have h2 : w2.heap.size ≤ _ := hlx82; omega⟩
        · refine ordP_step _ (by simp only [List.getElem?_toArray, List.getElem?_cons_succ, List.getElem?_cons_zero]; rfl) ?_ ordP_none
          with_reducible refine arm_alloc (zero512 _) ?_
          intro gx77 wx77 hbx77 hNx77 hUx77 hzx77
          change wx77.heap[gx77]? = some (.cells (zrow8 64) 36 (0, 0)) at hNx77
          have hlx77 := (hTx76).size
          rw [hbx77] at hlx77
          clear hbx77 hzx77
          have hTx77 := hTx76.trans hUx77
          have hx77_fr := hx76_fr.upd0 hUx77
          have hx77_bs := hUx77.heap hNx76 (by simp)
          go_wp2_with fail
          refine ord_more (by simp [Ord.first]) (hTx77) ?_
          refine ordP_step _ (by simp only [List.getElem?_toArray, List.getElem?_cons_succ, List.getElem?_cons_zero]; rfl) ?_ ordP_none
          go_wp2_with fail
          with_reducible refine (HJ1.out _ _ _ hTx77 hx77_bs hx77_fr).mono ?_
          rintro e wx78 ⟨vx78, rfl, hNx78, hUx78⟩
          have hTx78 := hTx77.trans hUx78
          have hx78_fr := hx77_fr.upd0 hUx78
          have hx78_bs := hUx78.heap hx77_bs (by simp)
          have hx78_b9 := hUx78.heap hNx77 (by simp)
          have hMx78 := hNx78.rd
          go_wp2_with fail
          refine ord_more (by simp [Ord.first]) (hTx78) ?_
          refine ordP_step _ (by simp only [List.getElem?_toArray, List.getElem?_cons_succ, List.getElem?_cons_zero]; rfl) ?_ ordP_none
          go_wp2_with fail
          with_reducible refine (HS1.out _ _ hTx78 hMx78).mono ?_
          rintro e wx79 ⟨rfl, hUx79⟩
          have hTx79 := hTx78.trans hUx79
          have hx79_fr := hx78_fr.upd0 hUx79
          have hx79_bs := hUx79.heap hx78_bs (by simp)
          have hx79_b9 := hUx79.heap hx78_b9 (by simp)
          have hx79_jn := hMx78.upd0 hUx79
          go_wp2_with fail
          refine ord_more (by simp [Ord.first]) (hTx79) ?_
          refine ordP_step _ (by simp only [List.getElem?_toArray, List.getElem?_cons_succ, List.getElem?_cons_zero]; rfl) ?_ ordP_none
          with_reducible refine arm_store (by with_unfolding_all exact rfl) (by with_unfolding_all exact rfl) hx79_b9 hs1 ho1 ha1 ?_
          intro wx80 hNx80 hXx80 hzx80
          have hTx80 := (hTx79).trans' hXx80 (fun i hm hi => by have := hlx77; simp at hm; omega)
          go_wp2_with fail
          refine ord_last (hTx80) ?_
          show Exit.then _ _ Exit.normal _ _
          go_wp2_with fail
          go_meet
          exact ⟨_, rfl, hNx80, hTx80, by have h1 := lt_of_heap k7; have h2 : w2.heap.size ≤ _ := hlx77; omega⟩
      · refine ordP_step _ (by simp only [List.getElem?_toArray, List.getElem?_cons_succ, List.getElem?_cons_zero]; rfl) ?_ ordP_none
        with_reducible refine arm_alloc (zero512 _) ?_
        intro gx71 wx71 hbx71 hNx71 hUx71 hzx71
        change wx71.heap[gx71]? = some (.cells (zrow8 64) 36 (0, 0)) at hNx71
        have hlx71 := (hTx70).size
        rw [hbx71] at hlx71
        clear hbx71 hzx71
        have hTx71 := hTx70.trans hUx71
        have hx71_fr := hMx70.upd0 hUx71
        go_wp2_with fail
        refine ord_more (by simp [Ord.first]) (hTx71) ?_
        refine ordP_step _ (by simp only [List.getElem?_toArray, List.getElem?_cons_succ, List.getElem?_cons_zero]; rfl) ?_ ordP_none
        with_reducible refine bs2 (by with_unfolding_all exact rfl) (by with_unfolding_all exact rfl) (hx71_fr).cells HM.out.cells ?_
        intro gx72 wx72 hbx72 hNx72 hUx72
        clear hbx72
        have hTx72 := hTx71.trans hUx72
        have hx72_fr := hx71_fr.upd0 hUx72
        have hx72_b9 := hUx72.heap hNx71 (by simp)
        go_wp2_with fail
        refine ord_more (by simp [Ord.first]) (hTx72) ?_
        refine ordP_step _ (by simp only [List.getElem?_toArray, List.getElem?_cons_succ, List.getElem?_cons_zero]; rfl) ?_ ordP_none
        go_wp2_with fail
        with_reducible refine (HJ1.out _ _ _ hTx72 hNx72 hx72_fr).mono ?_
        rintro e wx73 ⟨vx73, rfl, hNx73, hUx73⟩
        have hTx73 := hTx72.trans hUx73
        have hx73_fr := hx72_fr.upd0 hUx73
        have hx73_b9 := hUx73.heap hx72_b9 (by simp)
        have hx73_bs := hUx73.heap hNx72 (by simp)
        have hMx73 := hNx73.rd
        go_wp2_with fail
        refine ord_more (by simp [Ord.first]) (hTx73) ?_
        refine ordP_step _ (by simp only [List.getElem?_toArray, List.getElem?_cons_succ, List.getElem?_cons_zero]; rfl) ?_ ordP_none
        go_wp2_with fail
        with_reducible refine (HS1.out _ _ hTx73 hMx73).mono ?_
        rintro e wx74 ⟨rfl, hUx74⟩
        have hTx74 := hTx73.trans hUx74
        have hx74_fr := hx73_fr.upd0 hUx74
        have hx74_b9 := hUx74.heap hx73_b9 (by simp)
        have hx74_bs := hUx74.heap hx73_bs (by simp)
        have hx74_jn := hMx73.upd0 hUx74
        go_wp2_with fail
        refine ord_more (by simp [Ord.first]) (hTx74) ?_
        refine ordP_step _ (by simp only [List.getElem?_toArray, List.getElem?_cons_succ, List.getElem?_cons_zero]; rfl) ?_ ordP_none
        with_reducible refine arm_store (by with_unfolding_all exact rfl) (by with_unfolding_all exact rfl) hx74_b9 hs1 ho1 ha1 ?_
        intro wx75 hNx75 hXx75 hzx75
        have hTx75 := (hTx74).trans' hXx75 (fun i hm hi => by have := hlx71; simp at hm; omega)
        go_wp2_with fail
        refine ord_last (hTx75) ?_
        show Exit.then _ _ Exit.normal _ _
        go_wp2_with fail
        go_meet
        exact ⟨_, rfl, hNx75, hTx75, by have h1 := lt_of_heap k7; have h2 : w2.heap.size ≤ _ := hlx71; omega⟩
    · refine ordP_step _ (by simp only [List.getElem?_toArray, List.getElem?_cons_succ, List.getElem?_cons_zero]; rfl) ?_ ordP_none
      with_reducible refine arm_alloc (zero512 _) ?_
      intro gx64 wx64 hbx64 hNx64 hUx64 hzx64
      change wx64.heap[gx64]? = some (.cells (zrow8 64) 36 (0, 0)) at hNx64
      have hlx64 := ((Upd.refl [] w2).drew).size
      rw [hbx64] at hlx64
      clear hbx64 hzx64
      have hTx64 := (Upd.refl [] w2).drew.trans hUx64
      go_wp2_with fail
      refine ord_more (by simp [Ord.first]) (hTx64) ?_
      refine ordP_step _ (by simp only [List.getElem?_toArray, List.getElem?_cons_succ, List.getElem?_cons_zero]; rfl) ?_ ordP_none
      go_wp2_with fail
      with_reducible refine (HF1.out _ hTx64).mono ?_
      rintro e wx65 ⟨vx65, rfl, hNx65, hUx65⟩
      have hTx65 := hTx64.trans hUx65
      have hx65_b9 := hUx65.heap hNx64 (by simp)
      have hMx65 := hNx65.rd
      go_wp2_with fail
      refine ord_more (by simp [Ord.first]) (hTx65) ?_
      refine ordP_step _ (by simp only [List.getElem?_toArray, List.getElem?_cons_succ, List.getElem?_cons_zero]; rfl) ?_ ordP_none
      with_reducible refine bs2 (by with_unfolding_all exact rfl) (by with_unfolding_all exact rfl) (hMx65).cells HM.out.cells ?_
      intro gx66 wx66 hbx66 hNx66 hUx66
      clear hbx66
      have hTx66 := hTx65.trans hUx66
      have hx66_b9 := hUx66.heap hx65_b9 (by simp)
      have hx66_fr := hMx65.upd0 hUx66
      go_wp2_with fail
      refine ord_more (by simp [Ord.first]) (hTx66) ?_
      refine ordP_step _ (by simp only [List.getElem?_toArray, List.getElem?_cons_succ, List.getElem?_cons_zero]; rfl) ?_ ordP_none
      go_wp2_with fail
      with_reducible refine (HJ1.out _ _ _ hTx66 hNx66 hx66_fr).mono ?_
      rintro e wx67 ⟨vx67, rfl, hNx67, hUx67⟩
      have hTx67 := hTx66.trans hUx67
      have hx67_b9 := hUx67.heap hx66_b9 (by simp)
      have hx67_fr := hx66_fr.upd0 hUx67
      have hx67_bs := hUx67.heap hNx66 (by simp)
      have hMx67 := hNx67.rd
      go_wp2_with fail
      refine ord_more (by simp [Ord.first]) (hTx67) ?_
      refine ordP_step _ (by simp only [List.getElem?_toArray, List.getElem?_cons_succ, List.getElem?_cons_zero]; rfl) ?_ ordP_none
      go_wp2_with fail
      with_reducible refine (HS1.out _ _ hTx67 hMx67).mono ?_
      rintro e wx68 ⟨rfl, hUx68⟩
      have hTx68 := hTx67.trans hUx68
      have hx68_b9 := hUx68.heap hx67_b9 (by simp)
      have hx68_fr := hx67_fr.upd0 hUx68
      have hx68_bs := hUx68.heap hx67_bs (by simp)
      have hx68_jn := hMx67.upd0 hUx68
      go_wp2_with fail
      refine ord_more (by simp [Ord.first]) (hTx68) ?_
      refine ordP_step _ (by simp only [List.getElem?_toArray, List.getElem?_cons_succ, List.getElem?_cons_zero]; rfl) ?_ ordP_none
      with_reducible refine arm_store (by with_unfolding_all exact rfl) (by with_unfolding_all exact rfl) hx68_b9 hs1 ho1 ha1 ?_
      intro wx69 hNx69 hXx69 hzx69
      have hTx69 := (hTx68).trans' hXx69 (fun i hm hi => by have := hlx64; simp at hm; omega)
      go_wp2_with fail
      refine ord_last (hTx69) ?_
      show Exit.then _ _ Exit.normal _ _
      go_wp2_with fail
      go_meet
      exact ⟨_, rfl, hNx69, hTx69, by have h1 := lt_of_heap k7; have h2 : w2.heap.size ≤ _ := hlx64; omega⟩
  case rest =>
    obtain ⟨b9, rfl, k9, hV9, n9⟩ := hcut
    have k7' := hV9.heap k7 (by simp)
    go_upto_region 5 with (fail)
    refine wp_region_orders [0, 1, 3, 4] (.step 2 (.step 5 (.step 6 (.step 7 (.step 8 (.step 9 .none .none) .none) .none) .none) .none) .none) (Upd [b7] wc) (by kernel_rfl) (by kernel_rfl) ((Upd.refl _ _).drew) ?_
    refine takeO_cons _ _ rfl rfl (yields_cell rfl (fun w hS => hS.cell (hV9.cell q4 (by simp)) (by simp; omega)) Tryd.underlying41 rfl) ?_
    refine takeO_cons _ _ rfl rfl (yields_move rfl) ?_
    refine takeO_cons _ _ rfl rfl (yields_cell rfl (fun w hS => hS.cell (hV9.cell q3 (by simp)) (by simp; omega)) Tryd.underlying58 rfl) ?_
    refine takeO_cons _ _ rfl rfl (yields_row rfl (fun w hS => ⟨_, _, hS.heap k9 (by simp; omega)⟩) Tryd.underlying36 rfl hs1) ?_
    refine takeO_nil (by simp [Ord.first]) ?_
    refine ordP_step _ (by simp only [List.getElem?_toArray, List.getElem?_cons_succ, List.getElem?_cons_zero]; rfl) ?_ ordP_none
    go_wp2_with fail
    with_reducible refine (HF2.out _ (hV9.trans (Upd.refl [] wc).drew)).mono ?_
    rintro e wx88 ⟨vx88, rfl, hNx88, hUx88⟩
    have hTx88 := (Upd.refl [] wc).drew.trans hUx88
    have hMx88 := hNx88.rd
    go_wp2_with fail
    refine ord_more (by simp [Ord.first]) (Upd.of0 hTx88) ?_
    refine ordP_step _ (by simp only [List.getElem?_toArray, List.getElem?_cons_succ, List.getElem?_cons_zero]; rfl) ?_ ordP_none
    go_wp2_with fail
    with_reducible refine (HL1.out _).mono ?_
    rintro e wx89 ⟨vx89, rfl, hNx89, hUx89⟩
    have hTx89 := hTx88.trans hUx89
    have hx89_fr := hMx88.upd0 hUx89
    go_wp2_with fail
    refine ord_more (by simp [Ord.first]) (Upd.of0 hTx89) ?_
    refine ordP_step _ (by simp only [List.getElem?_toArray, List.getElem?_cons_succ, List.getElem?_cons_zero]; rfl) ?_ ordP_none
    with_reducible refine bs2 (by with_unfolding_all exact rfl) (by with_unfolding_all exact rfl) (hx89_fr).cells (hNx89).cells ?_
    intro gx90 wx90 hbx90 hNx90 hUx90
    clear hbx90
    have hTx90 := hTx89.trans hUx90
    have hx90_fr := hx89_fr.upd0 hUx90
    have hx90_li := hNx89.upd0 hUx90
    go_wp2_with fail
    refine ord_more (by simp [Ord.first]) (Upd.of0 hTx90) ?_
    refine ordP_step _ (by simp only [List.getElem?_toArray, List.getElem?_cons_succ, List.getElem?_cons_zero]; rfl) ?_ ordP_none
    go_wp2_with fail
    with_reducible refine (HJ2.out _ _ _ _ hNx90 hx90_fr hx90_li).mono ?_
    rintro e wx91 ⟨vx91, rfl, hNx91, hUx91⟩
    have hTx91 := hTx90.trans hUx91
    have hx91_fr := hx90_fr.upd0 hUx91
    have hx91_li := hx90_li.upd0 hUx91
    have hx91_bs := hUx91.heap hNx90 (by simp)
    have hMx91 := hNx91.rd
    go_wp2_with fail
    refine ord_more (by simp [Ord.first]) (Upd.of0 hTx91) ?_
    refine ordP_step _ (by simp only [List.getElem?_toArray, List.getElem?_cons_succ, List.getElem?_cons_zero]; rfl) ?_ ordP_none
    go_wp2_with fail
    with_reducible refine (HS2.out _ _ (hV9.trans hTx91) hMx91).mono ?_
    rintro e wx92 ⟨rfl, hUx92⟩
    have hTx92 := hTx91.trans hUx92
    have hx92_fr := hx91_fr.upd0 hUx92
    have hx92_li := hx91_li.upd0 hUx92
    have hx92_bs := hUx92.heap hx91_bs (by simp)
    have hx92_jn := hMx91.upd0 hUx92
    go_wp2_with fail
    refine ord_more (by simp [Ord.first]) (Upd.of0 hTx92) ?_
    refine ordP_step _ (by simp only [List.getElem?_toArray, List.getElem?_cons_succ, List.getElem?_cons_zero]; rfl) ?_ ordP_none
    with_reducible refine arm_store (by with_unfolding_all exact rfl) (by with_unfolding_all exact rfl) ((hTx92).heap k7' (by simp)) hs2 ho2 ha2 ?_
    intro wx93 hNx93 hXx93 hzx93
    have hTx93 := (Upd.of0 (T := [b7]) hTx92).trans hXx93
    have hx93_fr := hx92_fr
    have hx93_li := hx92_li
    have hx93_jn := hx92_jn
    go_wp2_with fail
    refine ord_last (hTx93) ?_
    show Exit.then _ _ Exit.normal _ _
    go_wp2_with fail
    refine bodyPost_ret (v := .agg c2) (results_cell_row rfl _ _ b7 36 _ (0, 0) _ rfl hNx93 Tryd.underlying36 rfl hs2) rfl ⟨by rw [HEQ.out, HC2.out], ?_⟩
    exact (hV2.trans hV9).trans' hTx93 (fun i hm hi => by simp at hm; omega)
theorem RdB.one512 {w : World} {v : Value} {l : List (BitVec 8)} (h : RdB w v l) : v.oneCell' = true := by
  obtain ⟨A, c, rfl, _⟩ := h; rfl
set_option maxRecDepth 100000 in
set_option maxHeartbeats 6400000 in
theorem keyed512_long (w : World) (kv mv : Value) (key msg : List (BitVec 8)) (b2 b3 b4 : Nat) (h2 : w.cell? ⟨b2, 0, none⟩ = some (.int .i64 128)) (h3 : w.cell? ⟨b3, 0, none⟩ = some (.func (.func 25) #[] #[])) (h4 : w.cell? ⟨b4, 0, none⟩ = some (.func (.func 16) #[] #[]))
    (hk : RdB w kv key) (hm : RdB w mv msg) (hml : msg.length ≤ 100000) (hkl : key.length ≤ 100000) (hle : 128 < key.length) (hg : Gl512 w) (hf : GlFirst512 w) :
    Calls Tryd.prog 45 #[kv, mv, .pointer (some ⟨b2, 0, none⟩), .pointer (some ⟨b3, 0, none⟩), .pointer (some ⟨b4, 0, none⟩)] w fun e w' => e = .returned (.agg ((hmac512 key msg).map U8).toArray) ∧ Upd [] w w' := by
  obtain ⟨A, c, e, hc1, hc2⟩ := hk.isSlice
  have HM := Lib.hid hm
  have HG := Lib.hid hg
  have HFI := Lib.hid hf
  have l2 := World.block_lt_of_cell? w _ h2
  have l3 := World.block_lt_of_cell? w _ h3
  have l4 := World.block_lt_of_cell? w _ h4
  obtain ⟨kk, hkk0⟩ : ∃ x, sha512 key = x := ⟨_, rfl⟩
  have hkeq : (if key.length ≤ 128 then key else sha512 key) = kk := by rw [if_neg (by omega), hkk0]
  have hkl2 : kk.length = 64 := by rw [← hkk0]; exact sha512_length _
  have hkk : kk.length ≤ 128 := by omega
  obtain ⟨n, hn⟩ : ∃ n, key.length = n := ⟨_, rfl⟩
  have HS0 : Hid (∀ W, Upd [] w W → Calls Tryd.prog 16 #[.slice A n c] W fun e w' => e = .returned (.agg (kk.map U8).toArray) ∧ Upd [] W w') := fun W hW => by
    have hr := hk.upd0 hW
    rw [e, hn] at hr
    have := sum512 W _ _ hr (by omega) (HG.out.upd hW (by simp)) (HFI.out.upd hW (by simp))
    rwa [hkk0] at this
  have HL0 : Hid (∀ W, Calls Tryd.prog 25 #[.agg (kk.map U8).toArray] W fun e w' => ∃ v, e = .returned v ∧ NewB W w' v kk ∧ Upd [] W w') := fun W => list512' W kk hkl2
  rw [e, hn]
  have hn' : 128 < (n : Int) := by omega
  have hkl' : (n : Int) ≤ 100000 := by omega
  obtain ⟨c0, hc0⟩ : ∃ c, (kk.map U8).toArray = c := ⟨_, rfl⟩
  rw [hc0] at HS0 HL0
  clear hm hg hf e hk hkk0 hn hkl2 hc0
  go_enter Tryd.func45, Tryd.ntmps45
  go_wp2_with (with_reducible refine arm_box (by with_unfolding_all exact rfl) ?_)
  intro b5 w1 hb5 k5 hU1 hz1
  change w1.heap[b5]? = some (.cells #[.slice A n c] 24 (0, 0)) at k5
  go_wp2_with (with_reducible refine arm_alloc (zero512 _) ?_)
  intro b7 wa hb7 k7a hU2 hz2
  change wa.heap[b7]? = some (.cells (zrow8 64) 36 (0, 0)) at k7a
  have k5a := hU2.heap k5 (by simp)
  have q5a : wa.cell? ⟨b5, 0, none⟩ = some (.slice A n c) := by rw [cell_of_row _ _ _ _ _ _ k5a]; rfl
  have q2a := hU2.cell (hU1.cell h2 (by simp)) (by simp)
  have q3a := hU2.cell (hU1.cell h3 (by simp)) (by simp)
  have q4a := hU2.cell (hU1.cell h4 (by simp)) (by simp)
  have hVa := hU1.trans hU2
  have hw1 := hU1.size
  have n3 : b3 ≠ b7 := by change b3 < _ at l3; omega
  have n4 : b4 ≠ b7 := by change b4 < _ at l4; omega
  have m2 : b2 ≠ b5 := by change b2 < _ at l2; omega
  have m3 : b3 ≠ b5 := by change b3 < _ at l3; omega
  have m4 : b4 ≠ b5 := by change b4 < _ at l4; omega
  have m7 : b7 ≠ b5 := by have := lt_of_heap k5; omega
  have hw2 : w.heap.size ≤ b7 := by omega
  have hw5 : w.heap.size ≤ b5 := by omega
  clear hb5 hz1 hb7 hz2 hU1 hU2 k5 h2 h3 h4 hw1 l2 l3 l4
  go_upto_region 2 with (fail)
  refine wp_region_orders [0, 1] (.step 2 (.step 3 (.step 4 (.step 5 .none .none) .none) .none) .none) (Upd [b5] wa) (by kernel_rfl) (by kernel_rfl) ((Upd.refl _ _).drew) ?_
  refine takeO_cons _ _ rfl rfl (yields_cell rfl (fun w hS => hS.cell q3a (by simp; omega)) Tryd.underlying58 rfl) ?_
  refine takeO_cons _ _ rfl rfl (yields_cell rfl (fun w hS => hS.cell q4a (by simp; omega)) Tryd.underlying41 rfl) ?_
  refine takeO_nil (by simp [Ord.first]) ?_
  refine ordP_step _ (by simp only [List.getElem?_toArray, List.getElem?_cons_succ, List.getElem?_cons_zero]; rfl) ?_ ordP_none
  go_wp2_with fail
  refine ord_more (by simp [Ord.first]) (Upd.of0 (Upd.refl [] wa).drew) ?_
  refine ordP_step _ (by simp only [List.getElem?_toArray, List.getElem?_cons_succ, List.getElem?_cons_zero]; rfl) ?_ ordP_none
  go_wp2_with fail
  with_reducible refine (HS0.out _ (hVa.trans (Upd.refl [] wa).drew)).mono ?_
  rintro e wx124 ⟨rfl, hUx124⟩
  have hTx124 := (Upd.refl [] wa).drew.trans hUx124
  go_wp2_with fail
  refine ord_more (by simp [Ord.first]) (Upd.of0 hTx124) ?_
  refine ordP_step _ (by simp only [List.getElem?_toArray, List.getElem?_cons_succ, List.getElem?_cons_zero]; rfl) ?_ ordP_none
  go_wp2_with fail
  with_reducible refine (HL0.out _).mono ?_
  rintro e wx125 ⟨vx125, rfl, hNx125, hUx125⟩
  have hTx125 := hTx124.trans hUx125
  have hMx125 := hNx125.1
  go_wp2_with fail
  refine ord_more (by simp [Ord.first]) (Upd.of0 hTx125) ?_
  refine ordP_step _ (by simp only [List.getElem?_toArray, List.getElem?_cons_succ, List.getElem?_cons_zero]; rfl) ?_ ordP_none
  with_reducible refine arm_store1 (by with_unfolding_all exact rfl) (by with_unfolding_all exact rfl) ((hTx125).heap k5a (by simp)) hMx125.cells (by kernel_rfl) (RdB.one512 hMx125) ?_
  intro wx126 hNx126 hXx126 hzx126
  have hTx126 := (Upd.of0 (T := [b5]) hTx125).trans hXx126
  go_wp2_with fail
  refine ord_last (hTx126) ?_
  show Exit.then _ _ Exit.normal _ _
  have q5 := cell_of_row _ _ 0 _ _ _ hNx126
  have q2 := (hTx126).cell q2a (by simp; omega)
  have q3 := (hTx126).cell q3a (by simp; omega)
  have q4 := (hTx126).cell q4a (by simp; omega)
  have k7 := (hTx126).heap k7a (by simp; omega)
  have hV2 := hVa.trans' hTx126 (fun i hm hi => by simp at hm; omega)
  have hrk := (hMx125).upd hXx126 (fun q hq hm => by have h1 := hNx125.2 q hq; have h2 := lt_of_heap k5a; have h3 := (hTx124).size; simp at hm; change wa.heap.size ≤ _ at h3; omega)
  have HKK := Lib.hid hrk
  clear hrk
  obtain ⟨w2, rfl⟩ : ∃ x, x = wx126 := ⟨_, rfl⟩
  clear q2a q3a q4a q5a k5a k7a hVa
  obtain ⟨H1, hH1⟩ : ∃ H, sha512 (frameOf kk 128 0x36 ++ msg) = H := ⟨_, rfl⟩
  obtain ⟨H2, hH2⟩ : ∃ H, sha512 (frameOf kk 128 0x5c ++ H1) = H := ⟨_, rfl⟩
  have hl1 : H1.length = 64 := by rw [← hH1]; exact sha512_length _
  have hl2 : H2.length = 64 := by rw [← hH2]; exact sha512_length _
  have hfl1 : (frameOf kk 128 0x36).length = 128 := frameOf_length _ _ _ hkk
  have hfl2 : (frameOf kk 128 0x5c).length = 128 := frameOf_length _ _ _ hkk
  have HF1 : Hid (∀ W, Upd [] w2 W → Calls Tryd.prog 46 #[.int .u8 54, .pointer (some ⟨b2, 0, none⟩), .pointer (some ⟨b5, 0, none⟩)] W fun e w' => ∃ v, e = .returned v ∧ OwnB w' W.heap.size v (frameOf kk 128 0x36) ∧ Upd [] W w') := fun W hW =>
    frame512 W vx125 kk b2 b5 128 0x36 (hW.cell q2 (by simp)) (hW.cell q5 (by simp)) (HKK.out.upd0 hW) hkk (by omega) (by omega)
  have HF2 : Hid (∀ W, Upd [] w2 W → Calls Tryd.prog 46 #[.int .u8 92, .pointer (some ⟨b2, 0, none⟩), .pointer (some ⟨b5, 0, none⟩)] W fun e w' => ∃ v, e = .returned v ∧ OwnB w' W.heap.size v (frameOf kk 128 0x5c) ∧ Upd [] W w') := fun W hW =>
    frame512 W vx125 kk b2 b5 128 0x5c (hW.cell q2 (by simp)) (hW.cell q5 (by simp)) (HKK.out.upd0 hW) hkk (by omega) (by omega)
  have HS1 : Hid (∀ W v, Upd [] w2 W → RdB W v (frameOf kk 128 0x36 ++ msg) → Calls Tryd.prog 16 #[v] W fun e w' => e = .returned (.agg (H1.map U8).toArray) ∧ Upd [] W w') := fun W v hW hr => by
    have := sum512 W v _ hr (by rw [List.length_append, hfl1]; omega) (HG.out.upd (hV2.trans hW) (by simp)) (HFI.out.upd (hV2.trans hW) (by simp))
    rwa [hH1] at this
  have HS2 : Hid (∀ W v, Upd [] w2 W → RdB W v (frameOf kk 128 0x5c ++ H1) → Calls Tryd.prog 16 #[v] W fun e w' => e = .returned (.agg (H2.map U8).toArray) ∧ Upd [] W w') := fun W v hW hr => by
    have := sum512 W v _ hr (by rw [List.length_append, hfl2, hl1]; omega) (HG.out.upd (hV2.trans hW) (by simp)) (HFI.out.upd (hV2.trans hW) (by simp))
    rwa [hH2] at this
  have HJ1 : Hid (∀ W G v1, Upd [] w2 W → W.heap[G]? = some (.cells #[v1, mv] 24 (0, 0)) → RdB W v1 (frameOf kk 128 0x36) → Calls Tryd.prog 20 #[.slice (some ⟨G, 0, none⟩) 2 2] W fun e w' => ∃ v, e = .returned v ∧ OwnB w' W.heap.size v (frameOf kk 128 0x36 ++ msg) ∧ Upd [] W w') := fun W G v1 hW hk hr =>
    join2 W G v1 mv _ _ _ _ hk hr (HM.out.upd0 (hV2.trans hW)) (by rw [hfl1]; omega)
  have HJ2 : Hid (∀ W G v1 v2, W.heap[G]? = some (.cells #[v1, v2] 24 (0, 0)) → RdB W v1 (frameOf kk 128 0x5c) → RdB W v2 H1 → Calls Tryd.prog 20 #[.slice (some ⟨G, 0, none⟩) 2 2] W fun e w' => ∃ v, e = .returned v ∧ OwnB w' W.heap.size v (frameOf kk 128 0x5c ++ H1) ∧ Upd [] W w') := fun W G v1 v2 hk h1 h2 =>
    join2 W G v1 v2 _ _ _ _ hk h1 h2 (by rw [hfl2, hl1]; omega)
  have HL1 : Hid (∀ W, Calls Tryd.prog 25 #[.agg (H1.map U8).toArray] W fun e w' => ∃ v, e = .returned v ∧ RdB w' v H1 ∧ Upd [] W w') := fun W => list512 W H1 hl1
  have hs1 := szrow512 hl1
  have ho1 := sameZ512 hl1
  have ha1 : ((H1.map U8).toArray).all (·.oneCell') = true := by simp
  have hs2 := szrow512 hl2
  have ho2 := sameZ512 hl2
  have ha2 : ((H2.map U8).toArray).all (·.oneCell') = true := by simp
  have HEQ : Hid (hmac512 key msg = H2) := by show hmac512 key msg = H2; rw [hmac512, hkeq, hH1, hH2]
  obtain ⟨c1, hc1⟩ : ∃ c, (H1.map U8).toArray = c := ⟨_, rfl⟩
  obtain ⟨c2, hc2⟩ : ∃ c, (H2.map U8).toArray = c := ⟨_, rfl⟩
  have HC2 := Lib.hid hc2
  rw [hc1] at HS1 HL1 hs1 ho1 ha1
  rw [hc2] at HS2 hs2 ho2 ha2
  clear hH1 hH2 hl1 hl2 hfl1 hfl2 hkk hkeq hc1 hc2
  go_upto_region 4 with (fail)
  go_cut [9] (fun s9 wx => ∃ b9, s9 = .pointer (some ⟨b9, 0, none⟩) ∧ wx.heap[b9]? = some (.cells c1 36 (0, 0)) ∧ Upd [] w2 wx ∧ b9 ≠ b7)
  case first =>
    refine wp_region_orders [0, 1, 3] (.step 2 (.step 4 (.step 5 (.step 6 (.step 7 (.step 8 .none .none) .none) (.step 7 (.step 6 (.step 8 .none .none) .none) .none)) (.step 7 (.step 5 (.step 6 (.step 8 .none .none) .none) .none) .none)) (.step 7 (.step 4 (.step 5 (.step 6 (.step 8 .none .none) .none) .none) .none) .none)) (.step 7 (.step 2 (.step 4 (.step 5 (.step 6 (.step 8 .none .none) .none) .none) .none) .none) .none)) (Upd [] w2) (by kernel_rfl) (by kernel_rfl) ((Upd.refl _ _).drew) ?_
    refine takeO_cons _ _ rfl rfl (yields_cell rfl (fun w hS => hS.cell q4 (by simp)) Tryd.underlying41 rfl) ?_
    refine takeO_cons _ _ rfl rfl (yields_move rfl) ?_
    refine takeO_cons _ _ rfl rfl (yields_move rfl) ?_
    refine takeO_nil (by simp [Ord.first]) ?_
    refine ordP_step _ (by simp only [List.getElem?_toArray, List.getElem?_cons_succ, List.getElem?_cons_zero]; rfl) ?_ ?_
    · go_wp2_with fail
      with_reducible refine (HF1.out _ (Upd.refl [] w2).drew).mono ?_
      rintro e wx100 ⟨vx100, rfl, hNx100, hUx100⟩
      have hTx100 := (Upd.refl [] w2).drew.trans hUx100
      have hMx100 := hNx100.rd
      go_wp2_with fail
      refine ord_more (by simp [Ord.first]) (hTx100) ?_
      refine ordP_step _ (by simp only [List.getElem?_toArray, List.getElem?_cons_succ, List.getElem?_cons_zero]; rfl) ?_ ?_
      · with_reducible refine bs2 (by with_unfolding_all exact rfl) (by with_unfolding_all exact rfl) (hMx100).cells HM.out.cells ?_
        intro gx106 wx106 hbx106 hNx106 hUx106
        clear hbx106
        have hTx106 := hTx100.trans hUx106
        have hx106_fr := hMx100.upd0 hUx106
        go_wp2_with fail
        refine ord_more (by simp [Ord.first]) (hTx106) ?_
        refine ordP_step _ (by simp only [List.getElem?_toArray, List.getElem?_cons_succ, List.getElem?_cons_zero]; rfl) ?_ ?_
        · go_wp2_with fail
          with_reducible refine (HJ1.out _ _ _ hTx106 hNx106 hx106_fr).mono ?_
          rintro e wx111 ⟨vx111, rfl, hNx111, hUx111⟩
          have hTx111 := hTx106.trans hUx111
          have hx111_fr := hx106_fr.upd0 hUx111
          have hx111_bs := hUx111.heap hNx106 (by simp)
          have hMx111 := hNx111.rd
          go_wp2_with fail
          refine ord_more (by simp [Ord.first]) (hTx111) ?_
          refine ordP_step _ (by simp only [List.getElem?_toArray, List.getElem?_cons_succ, List.getElem?_cons_zero]; rfl) ?_ ?_
          · go_wp2_with fail
            with_reducible refine (HS1.out _ _ hTx111 hMx111).mono ?_
            rintro e wx115 ⟨rfl, hUx115⟩
            have hTx115 := hTx111.trans hUx115
            have hx115_fr := hx111_fr.upd0 hUx115
            have hx115_bs := hUx115.heap hx111_bs (by simp)
            have hx115_jn := hMx111.upd0 hUx115
            go_wp2_with fail
            refine ord_more (by simp [Ord.first]) (hTx115) ?_
            refine ordP_step _ (by simp only [List.getElem?_toArray, List.getElem?_cons_succ, List.getElem?_cons_zero]; rfl) ?_ ordP_none
            with_reducible refine arm_alloc (zero512 _) ?_
            intro gx116 wx116 hbx116 hNx116 hUx116 hzx116
            change wx116.heap[gx116]? = some (.cells (zrow8 64) 36 (0, 0)) at hNx116
            have hlx116 := (hTx115).size
            rw [hbx116] at hlx116
            clear hbx116 hzx116
            have hTx116 := hTx115.trans hUx116
            have hx116_fr := hx115_fr.upd0 hUx116
            have hx116_bs := hUx116.heap hx115_bs (by simp)
            have hx116_jn := hx115_jn.upd0 hUx116
            go_wp2_with fail
            refine ord_more (by simp [Ord.first]) (hTx116) ?_
            refine ordP_step _ (by simp only [List.getElem?_toArray, List.getElem?_cons_succ, List.getElem?_cons_zero]; rfl) ?_ ordP_none
            with_reducible refine arm_store (by with_unfolding_all exact rfl) (by with_unfolding_all exact rfl) hNx116 hs1 ho1 ha1 ?_
            intro wx117 hNx117 hXx117 hzx117
            have hTx117 := (hTx116).trans' hXx117 (fun i hm hi => by have := hlx116; simp at hm; omega)
            go_wp2_with fail
            refine ord_last (hTx117) ?_
            show Exit.then _ _ Exit.normal _ _
            go_wp2_with fail
            go_meet
            exact ⟨_, rfl, hNx117, hTx117, by have h1 := lt_of_heap k7; have h2 : w2.heap.size ≤ _ := hlx116; omega⟩
          · refine ordP_step _ (by simp only [List.getElem?_toArray, List.getElem?_cons_succ, List.getElem?_cons_zero]; rfl) ?_ ordP_none
            with_reducible refine arm_alloc (zero512 _) ?_
            intro gx112 wx112 hbx112 hNx112 hUx112 hzx112
            change wx112.heap[gx112]? = some (.cells (zrow8 64) 36 (0, 0)) at hNx112
            have hlx112 := (hTx111).size
            rw [hbx112] at hlx112
            clear hbx112 hzx112
            have hTx112 := hTx111.trans hUx112
            have hx112_fr := hx111_fr.upd0 hUx112
            have hx112_bs := hUx112.heap hx111_bs (by simp)
            have hx112_jn := hMx111.upd0 hUx112
            go_wp2_with fail
            refine ord_more (by simp [Ord.first]) (hTx112) ?_
            refine ordP_step _ (by simp only [List.getElem?_toArray, List.getElem?_cons_succ, List.getElem?_cons_zero]; rfl) ?_ ordP_none
            go_wp2_with fail
            with_reducible refine (HS1.out _ _ hTx112 hx112_jn).mono ?_
            rintro e wx113 ⟨rfl, hUx113⟩
            have hTx113 := hTx112.trans hUx113
            have hx113_fr := hx112_fr.upd0 hUx113
            have hx113_bs := hUx113.heap hx112_bs (by simp)
            have hx113_jn := hx112_jn.upd0 hUx113
            have hx113_b9 := hUx113.heap hNx112 (by simp)
            go_wp2_with fail
            refine ord_more (by simp [Ord.first]) (hTx113) ?_
            refine ordP_step _ (by simp only [List.getElem?_toArray, List.getElem?_cons_succ, List.getElem?_cons_zero]; rfl) ?_ ordP_none
            with_reducible refine arm_store (by with_unfolding_all exact rfl) (by with_unfolding_all exact rfl) hx113_b9 hs1 ho1 ha1 ?_
            intro wx114 hNx114 hXx114 hzx114
            have hTx114 := (hTx113).trans' hXx114 (fun i hm hi => by have := hlx112; simp at hm; omega)
            go_wp2_with fail
            refine ord_last (hTx114) ?_
            show Exit.then _ _ Exit.normal _ _
            go_wp2_with fail
            go_meet
            exact ⟨_, rfl, hNx114, hTx114, by have h1 := lt_of_heap k7; have h2 : w2.heap.size ≤ _ := hlx112; omega⟩
        · refine ordP_step _ (by simp only [List.getElem?_toArray, List.getElem?_cons_succ, List.getElem?_cons_zero]; rfl) ?_ ordP_none
          with_reducible refine arm_alloc (zero512 _) ?_
          intro gx107 wx107 hbx107 hNx107 hUx107 hzx107
          change wx107.heap[gx107]? = some (.cells (zrow8 64) 36 (0, 0)) at hNx107
          have hlx107 := (hTx106).size
          rw [hbx107] at hlx107
          clear hbx107 hzx107
          have hTx107 := hTx106.trans hUx107
          have hx107_fr := hx106_fr.upd0 hUx107
          have hx107_bs := hUx107.heap hNx106 (by simp)
          go_wp2_with fail
          refine ord_more (by simp [Ord.first]) (hTx107) ?_
          refine ordP_step _ (by simp only [List.getElem?_toArray, List.getElem?_cons_succ, List.getElem?_cons_zero]; rfl) ?_ ordP_none
          go_wp2_with fail
          with_reducible refine (HJ1.out _ _ _ hTx107 hx107_bs hx107_fr).mono ?_
          rintro e wx108 ⟨vx108, rfl, hNx108, hUx108⟩
          have hTx108 := hTx107.trans hUx108
          have hx108_fr := hx107_fr.upd0 hUx108
          have hx108_bs := hUx108.heap hx107_bs (by simp)
          have hx108_b9 := hUx108.heap hNx107 (by simp)
          have hMx108 := hNx108.rd
          go_wp2_with fail
          refine ord_more (by simp [Ord.first]) (hTx108) ?_
          refine ordP_step _ (by simp only [List.getElem?_toArray, List.getElem?_cons_succ, List.getElem?_cons_zero]; rfl) ?_ ordP_none
          go_wp2_with fail
          with_reducible refine (HS1.out _ _ hTx108 hMx108).mono ?_
          rintro e wx109 ⟨rfl, hUx109⟩
          have hTx109 := hTx108.trans hUx109
          have hx109_fr := hx108_fr.upd0 hUx109
          have hx109_bs := hUx109.heap hx108_bs (by simp)
          have hx109_b9 := hUx109.heap hx108_b9 (by simp)
          have hx109_jn := hMx108.upd0 hUx109
          go_wp2_with fail
          refine ord_more (by simp [Ord.first]) (hTx109) ?_
          refine ordP_step _ (by simp only [List.getElem?_toArray, List.getElem?_cons_succ, List.getElem?_cons_zero]; rfl) ?_ ordP_none
          with_reducible refine arm_store (by with_unfolding_all exact rfl) (by with_unfolding_all exact rfl) hx109_b9 hs1 ho1 ha1 ?_
          intro wx110 hNx110 hXx110 hzx110
          have hTx110 := (hTx109).trans' hXx110 (fun i hm hi => by have := hlx107; simp at hm; omega)
          go_wp2_with fail
          refine ord_last (hTx110) ?_
          show Exit.then _ _ Exit.normal _ _
          go_wp2_with fail
          go_meet
          exact ⟨_, rfl, hNx110, hTx110, by have h1 := lt_of_heap k7; have h2 : w2.heap.size ≤ _ := hlx107; omega⟩
      · refine ordP_step _ (by simp only [List.getElem?_toArray, List.getElem?_cons_succ, List.getElem?_cons_zero]; rfl) ?_ ordP_none
        with_reducible refine arm_alloc (zero512 _) ?_
        intro gx101 wx101 hbx101 hNx101 hUx101 hzx101
        change wx101.heap[gx101]? = some (.cells (zrow8 64) 36 (0, 0)) at hNx101
        have hlx101 := (hTx100).size
        rw [hbx101] at hlx101
        clear hbx101 hzx101
        have hTx101 := hTx100.trans hUx101
        have hx101_fr := hMx100.upd0 hUx101
        go_wp2_with fail
        refine ord_more (by simp [Ord.first]) (hTx101) ?_
        refine ordP_step _ (by simp only [List.getElem?_toArray, List.getElem?_cons_succ, List.getElem?_cons_zero]; rfl) ?_ ordP_none
        with_reducible refine bs2 (by with_unfolding_all exact rfl) (by with_unfolding_all exact rfl) (hx101_fr).cells HM.out.cells ?_
        intro gx102 wx102 hbx102 hNx102 hUx102
        clear hbx102
        have hTx102 := hTx101.trans hUx102
        have hx102_fr := hx101_fr.upd0 hUx102
        have hx102_b9 := hUx102.heap hNx101 (by simp)
        go_wp2_with fail
        refine ord_more (by simp [Ord.first]) (hTx102) ?_
        refine ordP_step _ (by simp only [List.getElem?_toArray, List.getElem?_cons_succ, List.getElem?_cons_zero]; rfl) ?_ ordP_none
        go_wp2_with fail
        with_reducible refine (HJ1.out _ _ _ hTx102 hNx102 hx102_fr).mono ?_
        rintro e wx103 ⟨vx103, rfl, hNx103, hUx103⟩
        have hTx103 := hTx102.trans hUx103
        have hx103_fr := hx102_fr.upd0 hUx103
        have hx103_b9 := hUx103.heap hx102_b9 (by simp)
        have hx103_bs := hUx103.heap hNx102 (by simp)
        have hMx103 := hNx103.rd
        go_wp2_with fail
        refine ord_more (by simp [Ord.first]) (hTx103) ?_
        refine ordP_step _ (by simp only [List.getElem?_toArray, List.getElem?_cons_succ, List.getElem?_cons_zero]; rfl) ?_ ordP_none
        go_wp2_with fail
        with_reducible refine (HS1.out _ _ hTx103 hMx103).mono ?_
        rintro e wx104 ⟨rfl, hUx104⟩
        have hTx104 := hTx103.trans hUx104
        have hx104_fr := hx103_fr.upd0 hUx104
        have hx104_b9 := hUx104.heap hx103_b9 (by simp)
        have hx104_bs := hUx104.heap hx103_bs (by simp)
        have hx104_jn := hMx103.upd0 hUx104
        go_wp2_with fail
        refine ord_more (by simp [Ord.first]) (hTx104) ?_
        refine ordP_step _ (by simp only [List.getElem?_toArray, List.getElem?_cons_succ, List.getElem?_cons_zero]; rfl) ?_ ordP_none
        with_reducible refine arm_store (by with_unfolding_all exact rfl) (by with_unfolding_all exact rfl) hx104_b9 hs1 ho1 ha1 ?_
        intro wx105 hNx105 hXx105 hzx105
        have hTx105 := (hTx104).trans' hXx105 (fun i hm hi => by have := hlx101; simp at hm; omega)
        go_wp2_with fail
        refine ord_last (hTx105) ?_
        show Exit.then _ _ Exit.normal _ _
        go_wp2_with fail
        go_meet
        exact ⟨_, rfl, hNx105, hTx105, by have h1 := lt_of_heap k7; have h2 : w2.heap.size ≤ _ := hlx101; omega⟩
    · refine ordP_step _ (by simp only [List.getElem?_toArray, List.getElem?_cons_succ, List.getElem?_cons_zero]; rfl) ?_ ordP_none
      with_reducible refine arm_alloc (zero512 _) ?_
      intro gx94 wx94 hbx94 hNx94 hUx94 hzx94
      change wx94.heap[gx94]? = some (.cells (zrow8 64) 36 (0, 0)) at hNx94
      have hlx94 := ((Upd.refl [] w2).drew).size
      rw [hbx94] at hlx94
      clear hbx94 hzx94
      have hTx94 := (Upd.refl [] w2).drew.trans hUx94
      go_wp2_with fail
      refine ord_more (by simp [Ord.first]) (hTx94) ?_
      refine ordP_step _ (by simp only [List.getElem?_toArray, List.getElem?_cons_succ, List.getElem?_cons_zero]; rfl) ?_ ordP_none
      go_wp2_with fail
      with_reducible refine (HF1.out _ hTx94).mono ?_
      rintro e wx95 ⟨vx95, rfl, hNx95, hUx95⟩
      have hTx95 := hTx94.trans hUx95
      have hx95_b9 := hUx95.heap hNx94 (by simp)
      have hMx95 := hNx95.rd
      go_wp2_with fail
      refine ord_more (by simp [Ord.first]) (hTx95) ?_
      refine ordP_step _ (by simp only [List.getElem?_toArray, List.getElem?_cons_succ, List.getElem?_cons_zero]; rfl) ?_ ordP_none
      with_reducible refine bs2 (by with_unfolding_all exact rfl) (by with_unfolding_all exact rfl) (hMx95).cells HM.out.cells ?_
      intro gx96 wx96 hbx96 hNx96 hUx96
      clear hbx96
      have hTx96 := hTx95.trans hUx96
      have hx96_b9 := hUx96.heap hx95_b9 (by simp)
      have hx96_fr := hMx95.upd0 hUx96
      go_wp2_with fail
      refine ord_more (by simp [Ord.first]) (hTx96) ?_
      refine ordP_step _ (by simp only [List.getElem?_toArray, List.getElem?_cons_succ, List.getElem?_cons_zero]; rfl) ?_ ordP_none
      go_wp2_with fail
      with_reducible refine (HJ1.out _ _ _ hTx96 hNx96 hx96_fr).mono ?_
      rintro e wx97 ⟨vx97, rfl, hNx97, hUx97⟩
      have hTx97 := hTx96.trans hUx97
      have hx97_b9 := hUx97.heap hx96_b9 (by simp)
      have hx97_fr := hx96_fr.upd0 hUx97
      have hx97_bs := hUx97.heap hNx96 (by simp)
      have hMx97 := hNx97.rd
      go_wp2_with fail
      refine ord_more (by simp [Ord.first]) (hTx97) ?_
      refine ordP_step _ (by simp only [List.getElem?_toArray, List.getElem?_cons_succ, List.getElem?_cons_zero]; rfl) ?_ ordP_none
      go_wp2_with fail
      with_reducible refine (HS1.out _ _ hTx97 hMx97).mono ?_
      rintro e wx98 ⟨rfl, hUx98⟩
      have hTx98 := hTx97.trans hUx98
      have hx98_b9 := hUx98.heap hx97_b9 (by simp)
      have hx98_fr := hx97_fr.upd0 hUx98
      have hx98_bs := hUx98.heap hx97_bs (by simp)
      have hx98_jn := hMx97.upd0 hUx98
      go_wp2_with fail
      refine ord_more (by simp [Ord.first]) (hTx98) ?_
      refine ordP_step _ (by simp only [List.getElem?_toArray, List.getElem?_cons_succ, List.getElem?_cons_zero]; rfl) ?_ ordP_none
      with_reducible refine arm_store (by with_unfolding_all exact rfl) (by with_unfolding_all exact rfl) hx98_b9 hs1 ho1 ha1 ?_
      intro wx99 hNx99 hXx99 hzx99
      have hTx99 := (hTx98).trans' hXx99 (fun i hm hi => by have := hlx94; simp at hm; omega)
      go_wp2_with fail
      refine ord_last (hTx99) ?_
      show Exit.then _ _ Exit.normal _ _
      go_wp2_with fail
      go_meet
      exact ⟨_, rfl, hNx99, hTx99, by have h1 := lt_of_heap k7; have h2 : w2.heap.size ≤ _ := hlx94; omega⟩
  case rest =>
    obtain ⟨b9, rfl, k9, hV9, n9⟩ := hcut
    have k7' := hV9.heap k7 (by simp)
    go_upto_region 5 with (fail)
    refine wp_region_orders [0, 1, 3, 4] (.step 2 (.step 5 (.step 6 (.step 7 (.step 8 (.step 9 .none .none) .none) .none) .none) .none) .none) (Upd [b7] wc) (by kernel_rfl) (by kernel_rfl) ((Upd.refl _ _).drew) ?_
    refine takeO_cons _ _ rfl rfl (yields_cell rfl (fun w hS => hS.cell (hV9.cell q4 (by simp)) (by simp; omega)) Tryd.underlying41 rfl) ?_
    refine takeO_cons _ _ rfl rfl (yields_move rfl) ?_
    refine takeO_cons _ _ rfl rfl (yields_cell rfl (fun w hS => hS.cell (hV9.cell q3 (by simp)) (by simp; omega)) Tryd.underlying58 rfl) ?_
    refine takeO_cons _ _ rfl rfl (yields_row rfl (fun w hS => ⟨_, _, hS.heap k9 (by simp; omega)⟩) Tryd.underlying36 rfl hs1) ?_
    refine takeO_nil (by simp [Ord.first]) ?_
    refine ordP_step _ (by simp only [List.getElem?_toArray, List.getElem?_cons_succ, List.getElem?_cons_zero]; rfl) ?_ ordP_none
    go_wp2_with fail
    with_reducible refine (HF2.out _ (hV9.trans (Upd.refl [] wc).drew)).mono ?_
    rintro e wx118 ⟨vx118, rfl, hNx118, hUx118⟩
    have hTx118 := (Upd.refl [] wc).drew.trans hUx118
    have hMx118 := hNx118.rd
    go_wp2_with fail
    refine ord_more (by simp [Ord.first]) (Upd.of0 hTx118) ?_
    refine ordP_step _ (by simp only [List.getElem?_toArray, List.getElem?_cons_succ, List.getElem?_cons_zero]; rfl) ?_ ordP_none
    go_wp2_with fail
    with_reducible refine (HL1.out _).mono ?_
    rintro e wx119 ⟨vx119, rfl, hNx119, hUx119⟩
    have hTx119 := hTx118.trans hUx119
    have hx119_fr := hMx118.upd0 hUx119
    go_wp2_with fail
    refine ord_more (by simp [Ord.first]) (Upd.of0 hTx119) ?_
    refine ordP_step _ (by simp only [List.getElem?_toArray, List.getElem?_cons_succ, List.getElem?_cons_zero]; rfl) ?_ ordP_none
    with_reducible refine bs2 (by with_unfolding_all exact rfl) (by with_unfolding_all exact rfl) (hx119_fr).cells (hNx119).cells ?_
    intro gx120 wx120 hbx120 hNx120 hUx120
    clear hbx120
    have hTx120 := hTx119.trans hUx120
    have hx120_fr := hx119_fr.upd0 hUx120
    have hx120_li := hNx119.upd0 hUx120
    go_wp2_with fail
    refine ord_more (by simp [Ord.first]) (Upd.of0 hTx120) ?_
    refine ordP_step _ (by simp only [List.getElem?_toArray, List.getElem?_cons_succ, List.getElem?_cons_zero]; rfl) ?_ ordP_none
    go_wp2_with fail
    with_reducible refine (HJ2.out _ _ _ _ hNx120 hx120_fr hx120_li).mono ?_
    rintro e wx121 ⟨vx121, rfl, hNx121, hUx121⟩
    have hTx121 := hTx120.trans hUx121
    have hx121_fr := hx120_fr.upd0 hUx121
    have hx121_li := hx120_li.upd0 hUx121
    have hx121_bs := hUx121.heap hNx120 (by simp)
    have hMx121 := hNx121.rd
    go_wp2_with fail
    refine ord_more (by simp [Ord.first]) (Upd.of0 hTx121) ?_
    refine ordP_step _ (by simp only [List.getElem?_toArray, List.getElem?_cons_succ, List.getElem?_cons_zero]; rfl) ?_ ordP_none
    go_wp2_with fail
    with_reducible refine (HS2.out _ _ (hV9.trans hTx121) hMx121).mono ?_
    rintro e wx122 ⟨rfl, hUx122⟩
    have hTx122 := hTx121.trans hUx122
    have hx122_fr := hx121_fr.upd0 hUx122
    have hx122_li := hx121_li.upd0 hUx122
    have hx122_bs := hUx122.heap hx121_bs (by simp)
    have hx122_jn := hMx121.upd0 hUx122
    go_wp2_with fail
    refine ord_more (by simp [Ord.first]) (Upd.of0 hTx122) ?_
    refine ordP_step _ (by simp only [List.getElem?_toArray, List.getElem?_cons_succ, List.getElem?_cons_zero]; rfl) ?_ ordP_none
    with_reducible refine arm_store (by with_unfolding_all exact rfl) (by with_unfolding_all exact rfl) ((hTx122).heap k7' (by simp)) hs2 ho2 ha2 ?_
    intro wx123 hNx123 hXx123 hzx123
    have hTx123 := (Upd.of0 (T := [b7]) hTx122).trans hXx123
    have hx123_fr := hx122_fr
    have hx123_li := hx122_li
    have hx123_jn := hx122_jn
    go_wp2_with fail
    refine ord_last (hTx123) ?_
    show Exit.then _ _ Exit.normal _ _
    go_wp2_with fail
    refine bodyPost_ret (v := .agg c2) (results_cell_row rfl _ _ b7 36 _ (0, 0) _ rfl hNx123 Tryd.underlying36 rfl hs2) rfl ⟨by rw [HEQ.out, HC2.out], ?_⟩
    exact (hV2.trans hV9).trans' hTx123 (fun i hm hi => by simp at hm; omega)
set_option maxRecDepth 100000 in
theorem keyed512 (w : World) (kv mv : Value) (key msg : List (BitVec 8)) (b2 b3 b4 : Nat) (h2 : w.cell? ⟨b2, 0, none⟩ = some (.int .i64 128)) (h3 : w.cell? ⟨b3, 0, none⟩ = some (.func (.func 25) #[] #[])) (h4 : w.cell? ⟨b4, 0, none⟩ = some (.func (.func 16) #[] #[]))
    (hk : RdB w kv key) (hm : RdB w mv msg) (hml : msg.length ≤ 100000) (hkl : key.length ≤ 100000) (hg : Gl512 w) (hf : GlFirst512 w) :
    Calls Tryd.prog 45 #[kv, mv, .pointer (some ⟨b2, 0, none⟩), .pointer (some ⟨b3, 0, none⟩), .pointer (some ⟨b4, 0, none⟩)] w fun e w' => e = .returned (.agg ((hmac512 key msg).map U8).toArray) ∧ Upd [] w w' := by
  by_cases h : key.length ≤ 128
  · exact keyed512_short w kv mv key msg b2 b3 b4 h2 h3 h4 hk hm hml h hg hf
  · exact keyed512_long w kv mv key msg b2 b3 b4 h2 h3 h4 hk hm hml hkl (by omega) hg hf
end Go.Proofs.YtgpieipflidkpaaDoor
