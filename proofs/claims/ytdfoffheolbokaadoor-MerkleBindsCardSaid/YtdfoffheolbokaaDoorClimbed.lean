/-
  climbed: the pairs that a path lays beside one another.
-/
import Derived.Test.YtdfoffheolbokaaDoorPairRow
import Derived.Test.YtdfoffheolbokaaDoorCheckC
namespace Go.Proofs.YtdfoffheolbokaaDoor
open Go Go.RowKit Go.Proofs
theorem zero_pair (w : World) : (zeroValue 48).run Tryd.prog w = .ok (.agg (zrow8 64)) w := by kernel_rfl
theorem size_pair : (Tryd.prog.info? 48).map (·.size) = some 64 := by kernel_rfl
/-- a struct of two parts, built, that stands in every world -/
theorem yields_build2 {P : Program} {S : World → Prop} {a : Act} {dst : Option Tmp} {ty type : TypeId} {pos : String} {after : Array Edge} {gd : Option (Nat × Bool)} {x0 x1 : Operand} {v0 v1 : Value} {cs : Array Value}
    (h0 : a.eval x0 = v0) (h1 : a.eval x1 = v1) (hf : P.built ty [(0, v0), (1, v1)] = some cs) : ∀ w, S w → (execOp a.eval ⟨dst, .build ty #[(0, x0), (1, x1)], type, pos, after, gd⟩).run P w = .ok (.value (.agg cs)) w := by
  subst h0 h1
  exact yields_build (by simpa using hf)
/-- what climbed answers: the pairs, or that the path has another length -/
def Climbed (B m : Nat) (w : World) (S : List Bool) (leaf : H8) (P : List H8) (e : Ending) (w' : World) : Prop := ∃ u b, e = .returned (.tuple #[u, .bool b]) ∧ b = (S.length == m) ∧ (b = true → OwnP w' B u (pairsOf leaf S.reverse P)) ∧ (b = false → u = .slice none 0 0) ∧ Upd [] w w'
set_option maxRecDepth 100000 in
set_option maxHeartbeats 12800000 in
theorem climbed_ (w : World) (leaf : H8) (i n : Nat) (pv : Value) (P : List H8) (hl : leaf.length = 32) (hi : i < n) (hn : n ≤ 65536) (hp : RdH w pv P) (hpl : P.length ≤ 1000000) (hg : Gl256 w) (hf : GlFirst256 w) :
    Calls Tryd.prog 22 #[.agg (leaf.map U8).toArray, .int .i64 i, .int .i64 n, pv] w fun e w' => Climbed w.heap.size P.length w (sidesDown i n) leaf P e w' := by
  obtain ⟨A, c, e, hc1, hc2⟩ := hp.isSlice
  obtain ⟨m, hm⟩ : ∃ m, P.length = m := ⟨_, rfl⟩
  rw [hm] at e hc1 hpl
  rw [e] at hp ⊢
  obtain ⟨B, hB⟩ : ∃ B, w.heap.size = B := ⟨_, rfl⟩
  rw [hB, hm]
  have HB := Lib.hid hB
  have HBD := Lib.hid (sidesDown_bd n i)
  obtain ⟨S, hS⟩ : ∃ S, sidesDown i n = S := ⟨_, rfl⟩
  rw [hS] at HBD ⊢
  have HS := Lib.hid hS
  have HP := Lib.hid hp
  have HM := Lib.hid hm
  have HG := Lib.hid hg
  have HF := Lib.hid hf
  have HL32 := Lib.hid hl
  have hsl0 := szrow hl
  have hol0 := sameZ hl
  have hal0 := oneAll leaf
  obtain ⟨cl, hcl⟩ : ∃ c, (leaf.map U8).toArray = c := ⟨_, rfl⟩
  rw [hcl] at hsl0 hol0 hal0 ⊢
  have HCL := Lib.hid hcl
  clear hp hg hf hl hS hcl e hm hB
  go_enter Tryd.func22, Tryd.ntmps22
  go_wp2_with (with_reducible refine arm_box (by with_unfolding_all exact rfl) ?_)
  intro b4 w0 hb4 k4 hU0 hz4
  change w0.heap[b4]? = some (.cells cl 27 (0, 0)) at k4
  have HK4 := Lib.hid k4
  have HU0 := Lib.hid hU0
  obtain ⟨B0, hB0⟩ : ∃ B, w0.heap.size = B := ⟨_, rfl⟩
  have HB0 := Lib.hid hB0
  have hBB0 : B ≤ B0 := by have h1 := hU0.size; have h2 := HB.out; omega
  have h4B : b4 < B0 := by omega
  clear hb4 k4 hU0 hz4 hB0
  go_wp2_with (fail)
  go_loopw [1, 10, 11] (fun av dv bv wr => ∃ a b : Nat, ∃ l : List Bool, a < b ∧ b ≤ n ∧ av = .int .i64 a ∧ bv = .int .i64 b ∧ OwnL wr B0 dv l ∧ l ++ sidesDown a b = S ∧ Upd [] w0 wr) (fun _ _ bv _ => (intOf bv).toNat)
  case atStart => exact ⟨i, n, [], hi, Nat.le_refl _, rfl, rfl, OwnL.nil _ _, HS.out, Upd.refl _ _⟩
  case round =>
    obtain ⟨a, b, l, hab, hbn, rfl, rfl, hO, hPP, hU⟩ := hrel
    have HO := Lib.hid hO
    have HPP := Lib.hid hPP
    have HU := Lib.hid hU
    obtain ⟨wo, rfl⟩ : ∃ wo : World, wo = wr := ⟨_, rfl⟩
    have hbw : B0 ≤ wo.heap.size := by have := hU.size; have := HB0.out; omega
    have hll : l.length ≤ 65536 := by have h1 := HBD.out; rw [← hPP] at h1; simp at h1; omega
    clear hO hPP hU
    by_cases h : 1 < b
    · have h' : (b : Int) > 1 := by omega
      have hk1 := halfN_lt h
      have hk0 := halfN_pos b
      have HSP : Hid (∀ W, Calls Tryd.prog 19 #[.int .i64 b] W fun e w' => e = .returned (.int .i64 (halfN b)) ∧ W = w') := fun W => half_ W b h (by omega)
      have HPL : Hid (halfN b ≤ a → sidesDown a b = true :: sidesDown (a - halfN b) (b - halfN b)) := fun hk => sidesDown_left a b h hk
      have HPR : Hid (a < halfN b → sidesDown a b = false :: sidesDown a (halfN b)) := fun hk => sidesDown_right a b h hk
      obtain ⟨k, hk⟩ : ∃ k, halfN b = k := ⟨_, rfl⟩
      rw [hk] at hk1 hk0 HSP HPL HPR
      clear hk
      go_wp2_with (fail)
      with_reducible refine (HSP.out _).mono ?_
      rintro e w2 ⟨rfl, rfl⟩
      by_cases hak : k ≤ a
      · have hak' : decide ((a : Int) ≥ (k : Int)) = true := by simp; omega
        have hak2 : (a : Int) ≥ (k : Int) := by omega
        go_wp2_with (with_reducible refine bsL (y := true) (by with_unfolding_all exact rfl) ?_)
        intro g4 w4 hg4 k4 hU4
        have hO4 := HO.out.upd0 hU4
        have hb4 : B0 ≤ w4.heap.size := by have := hU4.size; omega
        go_wp2_with (with_reducible refine appendL (by with_unfolding_all exact rfl) (by with_unfolding_all exact rfl) hO4 k4 (by omega) hb4 ?_)
        intro v5 w5 hO5 hU5
        have hT5 := (HU.out.trans hU4).row hU5 (fun g hg => by have := (hO4.lt g hg).1; have := HB0.out; omega)
        have H5 := Lib.hid hO5
        have HT5 := Lib.hid hT5
        clear hO4 hO5 hT5 hU4 hU5 k4
        go_wp2_with (fail)
        go_roundw
        case rel => exact ⟨a - k, b - k, l ++ [true], by omega, by omega, by go_num, by go_num, H5.out, by have := HPP.out; rw [HPL.out hak] at this; simpa using this, HT5.out⟩
        case measure => simp [intOf]; omega
      · have hak' : decide ((a : Int) ≥ (k : Int)) = false := by simp; omega
        have hak2 : ¬ ((a : Int) ≥ (k : Int)) := by omega
        go_wp2_with (with_reducible refine bsL (y := false) (by with_unfolding_all exact rfl) ?_)
        intro g4 w4 hg4 k4 hU4
        have hO4 := HO.out.upd0 hU4
        have hb4 : B0 ≤ w4.heap.size := by have := hU4.size; omega
        go_wp2_with (with_reducible refine appendL (by with_unfolding_all exact rfl) (by with_unfolding_all exact rfl) hO4 k4 (by omega) hb4 ?_)
        intro v5 w5 hO5 hU5
        have hT5 := (HU.out.trans hU4).row hU5 (fun g hg => by have := (hO4.lt g hg).1; have := HB0.out; omega)
        have H5 := Lib.hid hO5
        have HT5 := Lib.hid hT5
        clear hO4 hO5 hT5 hU4 hU5 k4
        go_wp2_with (fail)
        go_roundw
        case rel => exact ⟨a, k, l ++ [false], by omega, by omega, by go_num, by go_num, H5.out, by have := HPP.out; rw [HPR.out (by omega)] at this; simpa using this, HT5.out⟩
        case measure => simp [intOf]; omega
    · have h' : ¬ ((b : Int) > 1) := by omega
      have hl : l = S := by have := HPP.out; rw [sidesDown_one _ _ (by omega), List.append_nil] at this; exact this
      subst hl
      obtain ⟨L, hL⟩ : ∃ L, l.length = L := ⟨_, rfl⟩
      have HL := Lib.hid hL
      obtain ⟨ua, uc, hda⟩ := HO.out.isSlice
      rw [hL] at hda hll
      have HO2 : Hid (OwnL wo B0 (.slice ua L uc) l) := by rw [← hda]; exact HO.out
      rw [hda]
      have k4 := HU.out.heap HK4.out (by simp)
      have hV := HU0.out.trans HU.out
      clear hda hL HPP HS HBD
      by_cases hlen : L = m
      · subst hlen
        have hnel : ((L : Int) != (L : Int)) = false := by simp
        go_wp2_with (first
          | (with_reducible refine arm_load (by with_unfolding_all exact rfl) k4 Tryd.underlying27 (by with_unfolding_all exact rfl) hsl0 ?_)
          | (with_reducible refine arm_alloc (zero_h32 _) ?_))
        intro b14 w12 hb14 k14 hU12 hz12
        change w12.heap[b14]? = some (.cells (zrow8 32) 27 (0, 0)) at k14
        go_wp2_with (with_reducible refine arm_store (by with_unfolding_all exact rfl) (by with_unfolding_all exact rfl) k14 hsl0 hol0 hal0 ?_)
        intro w13 k13 hX13 hz13
        have hT13 := hU12.fresh hb14 hX13
        have hO13 := HO2.out.upd0 hT13
        have hV13 := hV.trans hT13
        have h14B : B ≤ b14 := by have := hV.size; have := HB.out; omega
        have hw14 : ∀ k, (Value.slice ua L uc).ownBlock = some k → k < b14 := fun k hk => by have := (HO2.out.lt k hk).2; omega
        have HW14 := Lib.hid hw14
        obtain ⟨B13, hB13⟩ : ∃ B, w13.heap.size = B := ⟨_, rfl⟩
        have HB13 := Lib.hid hB13
        have h1413 : b14 < B13 := by have := lt_of_heap k13; omega
        have h13B : B ≤ B13 := by omega
        have hg0 : w13.heap[b14]? = some (.cells ((climbH leaf ([] : List Bool) []).map U8).toArray 27 (0, 0)) := by simp only [climbH]; rw [HCL.out]; exact k13
        obtain ⟨R, hR⟩ : ∃ R, l.reverse = R := ⟨_, rfl⟩
        have HRL : Hid (∀ q (h1 : q < R.length) (h2 : L - 1 - q < l.length), l[L - 1 - q] = R[q]) := fun q h1 h2 => by
          have h3 := HL.out
          subst hR
          rw [List.getElem_reverse]
          congr 1
          omega
        have HSR : Hid (R.length = L) := by rw [← hR, List.length_reverse]; exact HL.out
        have HRR := Lib.hid hR
        have HO13 := Lib.hid hO13
        have HV13 := Lib.hid hV13
        have HG0 := Lib.hid hg0
        clear hb14 hz12 k14 hU12 k13 hX13 hz13 hT13 hO13 hV13 hB13 hg0 hR k4 hV
        go_wp2_with (fail)
        go_loopw [13, 15] (fun lv iv wr => ∃ q : Nat, q ≤ L ∧ iv = .int .i64 q ∧ OwnP wr B13 lv (pairsOf leaf (R.take q) (P.take q)) ∧ OwnL wr B0 (.slice ua L uc) l ∧ wr.heap[b14]? = some (.cells ((climbH leaf (R.take q) (P.take q)).map U8).toArray 27 (0, 0)) ∧ Upd [] w wr ∧ B13 ≤ wr.heap.size) (fun _ iv _ => L - (intOf iv).toNat)
        case atStart => exact ⟨0, by omega, rfl, OwnP.nil _ _, HO13.out, HG0.out, HV13.out, by rw [HB13.out]; exact Nat.le_refl _⟩
        case round =>
          obtain ⟨q, hq, rfl, hPP, hOw, k14, hV, hsz⟩ := hrel
          have HPP := Lib.hid hPP
          have HOw := Lib.hid hOw
          have HV := Lib.hid hV
          have HSZ := Lib.hid hsz
          obtain ⟨wo, rfl⟩ : ∃ wo : World, wo = wr := ⟨_, rfl⟩
          clear hPP hOw hV hsz
          by_cases h : q < L
          · have h' : (q : Int) < (L : Int) := by omega
            have hqR : q < R.length := by rw [HSR.out]; exact h
            have hqP : q < P.length := by rw [HM.out]; exact h
            have HST := Lib.hid (climbH_take leaf R P q hqR hqP)
            have HPT := Lib.hid (pairsOf_take leaf R P q hqR hqP)
            have hHl := climbH_len (R.take q) (P.take q) leaf HL32.out
            have hPl : (pairsOf leaf (R.take q) (P.take q)).length = q := by rw [pairsOf_length _ _ _ (by simp; omega)]; simp; omega
            obtain ⟨ga, capa, hga, _, _, _, _⟩ := HOw.out.at (by rw [HL.out]; omega)
            injection hga with e1 e2 e3
            subst e1
            obtain ⟨r, hr⟩ : ∃ r, L - 1 - q = r := ⟨_, rfl⟩
            have hrl : r < l.length := by rw [HL.out]; omega
            have hcb := HOw.out.cell r hrl
            have hrr : l[r]'hrl = R[q]'hqR := by have := HRL.out q hqR (by rw [hr]; exact hrl); simpa only [hr] using this
            have hr' : (L : Int) - 1 - (q : Int) = (r : Int) := by omega
            have hrn : r < L := by omega
            have hPw : RdH wo (.slice A L c) P := HP.out.upd0 HV.out
            obtain ⟨g1, p1, c1', e0', _, _, _⟩ := hPw.at (by omega)
            injection e0' with e7 e8 e9
            rw [e7] at hPw ⊢
            have hel := hPw.elem q hqP
            have hxl : (P[q]'hqP).length = 32 := hPw.1 _ (List.getElem_mem hqP)
            rw [hrr] at hcb
            obtain ⟨y, hy⟩ : ∃ y, R[q]'hqR = y := ⟨_, rfl⟩
            obtain ⟨x, hx⟩ : ∃ x, P[q]'hqP = x := ⟨_, rfl⟩
            obtain ⟨H, hH⟩ : ∃ H, climbH leaf (R.take q) (P.take q) = H := ⟨_, rfl⟩
            rw [hy] at hcb
            rw [hx] at hel hxl
            rw [hH] at k14 hHl
            have hsx := szlist hxl
            have hsH := szrow hHl
            have hb1 := built_pair H x hHl hxl
            have hb2 := built_pair x H hxl hHl
            obtain ⟨lx, hlx⟩ : ∃ l, x.map U8 = l := ⟨_, rfl⟩
            obtain ⟨cH, hcH⟩ : ∃ c, (H.map U8).toArray = c := ⟨_, rfl⟩
            have hsp1 : (Tryd.prog.info? 48).map (·.size) = some ((H ++ x).map U8).toArray.size := by rw [size_pair]; simp [hHl, hxl]
            have hsp2 : (Tryd.prog.info? 48).map (·.size) = some ((x ++ H).map U8).toArray.size := by rw [size_pair]; simp [hHl, hxl]
            have hop1 : (zrow8 64).size = ((H ++ x).map U8).toArray.size := by simp [zrow8_size, hHl, hxl]
            have hop2 : ((H ++ x).map U8).toArray.size = ((x ++ H).map U8).toArray.size := by simp [hHl, hxl]
            have hap1 : (((H ++ x).map U8).toArray).all (·.oneCell') = true := by simp
            have hap2 : (((x ++ H).map U8).toArray).all (·.oneCell') = true := by simp
            obtain ⟨d1, hd1⟩ : ∃ c, ((H ++ x).map U8).toArray = c := ⟨_, rfl⟩
            obtain ⟨d2, hd2⟩ : ∃ c, ((x ++ H).map U8).toArray = c := ⟨_, rfl⟩
            rw [hlx] at hel hsx hb1 hb2
            rw [hcH] at k14 hsH hb1 hb2
            rw [hd1] at hb1 hsp1 hop1 hop2 hap1
            rw [hd2] at hb2 hsp2 hop2 hap2
            have HEL : Hid (∀ W, Upd [] wo W → W.rangeAt g1 (p1 + q * 32) lx) := fun W hW j v hj => hW.cell (hel j v hj) (by simp)
            have HQ14 : Hid (∀ W, Upd [] wo W → ∃ t fr, W.heap[b14]? = some (.cells cH t fr)) := fun W hW => ⟨_, _, hW.heap k14 (by simp)⟩
            have HSZ' : B13 ≤ wo.heap.size := HSZ.out
            clear e2 e3 e7 e8 e9 hr hrr
            go_upto_region 17 with (fail)
            refine wp_region_orders [0, 1, 2, 3, 4, 5] (.step 6 (.step 7 .none .none) .none) (Upd [] wo) (by kernel_rfl) (by kernel_rfl) ((Upd.refl _ _).drew) ?_
            refine takeO_cons _ (.agg cH) rfl (by kernel_rfl) (yields_row (by kernel_rfl) HQ14.out Tryd.underlying27 rfl hsH) ?_
            refine takeO_cons _ (.slice (some ⟨g1, p1, none⟩) L c) rfl (by kernel_rfl) (yields_move (by kernel_rfl)) ?_
            refine takeO_cons _ (.int .i64 q) rfl (by kernel_rfl) (yields_move (by kernel_rfl)) ?_
            refine takeO_cons _ (.pointer (some ⟨g1, p1 + q * 32, none⟩)) rfl (by kernel_rfl) (yields_index (i := q) (o := p1) (n := L) (c := c) (u := q) Tryd.underlying25 elem_hashes size_hash0 (by kernel_rfl) (by kernel_rfl) rfl h rfl) ?_
            refine takeO_cons _ (.agg lx.toArray) rfl (by kernel_rfl) (yields_mid (by kernel_rfl) HEL.out Tryd.underlying27 rfl hsx) ?_
            refine takeO_cons _ (.agg d1) rfl (by kernel_rfl) (yields_build2 (by kernel_rfl) (by kernel_rfl) hb1) ?_
            refine takeO_nil (by simp [Ord.first]) ?_
            refine ordP_step _ (by simp only [List.getElem?_toArray, List.getElem?_cons_succ, List.getElem?_cons_zero]; rfl) ?_ ordP_none
            with_reducible refine arm_alloc (zero_pair _) ?_
            intro b16 wA hbA kA hUA hzA
            change wA.heap[b16]? = some (.cells (zrow8 64) 48 (0, 0)) at kA
            have hTA := (Upd.refl [] wo).drew.trans hUA
            have hlA : wo.heap.size ≤ b16 := by have h1 : wo.drew.heap.size = wo.heap.size := rfl; omega
            go_wp2_with fail
            refine ord_more (by simp [Ord.first]) hTA ?_
            refine ordP_step _ (by simp only [List.getElem?_toArray, List.getElem?_cons_succ, List.getElem?_cons_zero]; rfl) ?_ ordP_none
            with_reducible refine arm_store (by kernel_rfl) (by kernel_rfl) kA hsp1 hop1 hap1 ?_
            intro w17 k16 hXC hzC
            have hT17 := hTA.trans' hXC (fun i hm hi => by simp at hm; omega)
            go_wp2_with fail
            refine ord_last hT17 ?_
            show Exit.then _ _ Exit.normal _ _
            have hcb17 := hT17.cell hcb (by simp)
            clear hbA kA hUA hzA hTA hXC hzC hcb
            cases y with
            | false =>
              have hD : ((H ++ x).map U8).toArray = d1 := hd1
              have HD := Lib.hid hD
              have hPP2 := HPP.out.upd0 hT17
              have hOw2 := HOw.out.upd0 hT17
              have k142 := hT17.heap k14 (by simp)
              have hb2 : B13 ≤ w17.heap.size := by have := hT17.size; omega
              have hPl' := hPl
              have HPL' := Lib.hid hPl'
              have hV2 := HV.out.trans hT17
              clear hD hPl' hPl
              go_wp2_with (first
                | (with_reducible refine arm_load (by with_unfolding_all exact rfl) k16 Tryd.underlying48 (by with_unfolding_all exact rfl) hsp1 ?_)
                | (with_reducible refine bsP HD.out (by simp [hHl, hxl]) (by with_unfolding_all exact rfl) ?_))
              intro g20 w20 hg20 k20 hU20
              have hPP3 := hPP2.upd0 hU20
              have hOw3 := hOw2.upd0 hU20
              have k143 := hU20.heap k142 (by simp)
              have k163 := hU20.heap k16 (by simp)
              have hb3 : B13 ≤ w20.heap.size := by have := hU20.size; omega
              have hlt16 : ∀ k, u13.ownBlock = some k → k < wo.heap.size := fun k hk => (HPP.out.lt k hk).2
              have hge : ∀ k, u13.ownBlock = some k → B13 ≤ k := fun k hk => (HPP.out.lt k hk).1
              go_wp2_with (with_reducible refine appendP (by with_unfolding_all exact rfl) (by with_unfolding_all exact rfl) hPP3 k20 hHl hxl (by have := HPL'.out; omega) hb3 ?_)
              intro v21 w21 hP21 hU21
              have k1621 := hU21.heap k163 (fun hm => by have := hlt16 b16 (by simpa using hm); omega)
              have k1421 := hU21.heap k143 (fun hm => by have := hge b14 (by simpa using hm); omega)
              have hOw21 := hOw3.upd hU21 (fun k hk hm => by have h1 := HW14.out k hk; have h2 := hge k (by simpa using hm); omega)
              have hV21 : Upd [] w w21 := (hV2.trans hU20).row hU21 (fun g hg => by have := hge g hg; have := HB.out; omega)
              have hs21 : B13 ≤ w21.heap.size := by have := hU21.size; omega
              have kk : w21.heap[b16]? = some (.cells (H.map U8 ++ x.map U8).toArray 48 (0, 0)) := by rw [← List.map_append, HD.out]; exact k1621
              have ra := range_of_row kk 0 (H.map U8) ⟨[], x.map U8, by simp, rfl⟩
              have rb := range_of_row kk 32 (x.map U8) ⟨H.map U8, [], by simp, by simp [hHl]⟩
              have hz1 := szlist hHl
              have hz2 := szlist hxl
              have hNl : (nodeH H x).length = 32 := nodeH_length _ _
              have hN := node_ w21 H x hHl hxl (HG.out.upd hV21 (by simp)) (HF.out.upd hV21 (by simp))
              have hsN := szrow hNl
              have haN := oneAll (nodeH H x)
              have hoN : cH.size = ((nodeH H x).map U8).toArray.size := by rw [← hcH]; simp [hHl, hNl]
              have hnext : climbH leaf (R.take (q + 1)) (P.take (q + 1)) = nodeH H x := by rw [HST.out, hH, hy, hx]; rfl
              have hpairs : pairsOf leaf (R.take (q + 1)) (P.take (q + 1)) = pairsOf leaf (R.take q) (P.take q) ++ [(H, x)] := by rw [HPT.out, hH, hy, hx]; rfl
              obtain ⟨N, hNe⟩ : ∃ N, nodeH H x = N := ⟨_, rfl⟩
              rw [hNe] at hN hsN haN hoN hnext
              obtain ⟨cN, hcN⟩ : ∃ c, (N.map U8).toArray = c := ⟨_, rfl⟩
              obtain ⟨la, hla⟩ : ∃ l, H.map U8 = l := ⟨_, rfl⟩
              obtain ⟨lb, hlb⟩ : ∃ l, x.map U8 = l := ⟨_, rfl⟩
              rw [hla] at ra hz1 hN
              rw [hlb] at rb hz2 hN
              rw [hcN] at hN hsN haN hoN
              have HN := Lib.hid hN
              have HNEXT := Lib.hid hnext
              have HPAIRS := Lib.hid hpairs
              have HCN := Lib.hid hcN
              clear hPP2 hOw2 k142 hPP3 hOw3 k143 k163 k20 hg20 hU20 hU21 kk k1621 hN hnext hpairs hNl hNe hcN hla hlb hV2
              go_wp2_with (first
                | (with_reducible refine arm_load_mid (g := b16) (k := 0) (by with_unfolding_all exact rfl) ra Tryd.underlying27 rfl hz1 ?_)
                | (with_reducible refine arm_load_mid (g := b16) (k := 32) (by with_unfolding_all exact rfl) rb Tryd.underlying27 rfl hz2 ?_))
              with_reducible refine HN.out.mono ?_
              rintro e w22 ⟨rfl, hU22⟩
              have k1422 := hU22.heap k1421 (by simp)
              go_wp2_with (with_reducible refine arm_store (by with_unfolding_all exact rfl) (by with_unfolding_all exact rfl) k1422 hsN hoN haN ?_)
              intro w23 k23 hX23 hz23
              have hP23 := (hP21.upd0 hU22).upd hX23 (fun k hk hm => by have h1 := ((hP21.upd0 hU22).lt k hk).1; simp at hm; omega)
              have hOw23 := (hOw21.upd0 hU22).upd hX23 (fun k hk hm => by have h1 := HW14.out k hk; simp at hm; omega)
              have hV23 := (hV21.trans hU22).trans' hX23 (fun i hm hi => by have := HB.out; simp at hm; omega)
              have hs23 : B13 ≤ w23.heap.size := by have := hU22.size; omega
              have HP23 := Lib.hid hP23
              have HOw23 := Lib.hid hOw23
              have HV23 := Lib.hid hV23
              have K23 := Lib.hid k23
              clear hP23 hOw23 hV23 k23 hX23 hz23 hU22 k1422 hP21 hOw21 hV21 k1421 ra rb
              go_wp2_with (fail)
              go_roundw
              case rel => exact ⟨q + 1, by omega, by go_num, by rw [HPAIRS.out]; exact HP23.out, HOw23.out, by rw [HNEXT.out, HCN.out]; exact K23.out, HV23.out, hs23⟩
              case measure => simp [intOf]; omega
            | true =>
              go_upto_region 19 with (fail)
              have hg1 : g1 < wo.heap.size := hPw.lt (by rw [HM.out]; omega) g1 rfl
              have HEL2 : Hid (∀ W, Upd [b16] w17 W → W.rangeAt g1 (p1 + q * 32) lx) := fun W hW j v hj => hW.cell (HEL.out w17 hT17 j v hj) (by simp; omega)
              have k1417 := hT17.heap k14 (by simp)
              have HQ14b : Hid (∀ W, Upd [b16] w17 W → ∃ t fr, W.heap[b14]? = some (.cells cH t fr)) := fun W hW => ⟨_, _, hW.heap k1417 (by simp; omega)⟩
              refine wp_region_orders [0, 1, 2, 3, 4, 5] (.step 6 .none .none) (Upd [b16] w17) (by kernel_rfl) (by kernel_rfl) ((Upd.refl _ _).drew) ?_
              refine takeO_cons _ (.slice (some ⟨g1, p1, none⟩) L c) rfl (by kernel_rfl) (yields_move (by kernel_rfl)) ?_
              refine takeO_cons _ (.int .i64 q) rfl (by kernel_rfl) (yields_move (by kernel_rfl)) ?_
              refine takeO_cons _ (.pointer (some ⟨g1, p1 + q * 32, none⟩)) rfl (by kernel_rfl) (yields_index (i := q) (o := p1) (n := L) (c := c) (u := q) Tryd.underlying25 elem_hashes size_hash0 (by kernel_rfl) (by kernel_rfl) rfl h rfl) ?_
              refine takeO_cons _ (.agg lx.toArray) rfl (by kernel_rfl) (yields_mid (by kernel_rfl) HEL2.out Tryd.underlying27 rfl hsx) ?_
              refine takeO_cons _ (.agg cH) rfl (by kernel_rfl) (yields_row (by kernel_rfl) HQ14b.out Tryd.underlying27 rfl hsH) ?_
              refine takeO_cons _ (.agg d2) rfl (by kernel_rfl) (yields_build2 (by kernel_rfl) (by kernel_rfl) hb2) ?_
              refine takeO_nil (by simp [Ord.first]) ?_
              refine ordP_step _ (by simp only [List.getElem?_toArray, List.getElem?_cons_succ, List.getElem?_cons_zero]; rfl) ?_ ordP_none
              with_reducible refine arm_store (by kernel_rfl) (by kernel_rfl) k16 hsp2 hop2 hap2 ?_
              intro w19 k19 hX19 hz19
              have hS19 := (Upd.refl [b16] w17).drew.trans hX19
              have hT19 := hT17.trans' hS19 (fun i hm hi => by simp at hm; omega)
              go_wp2_with fail
              refine ord_last hS19 ?_
              show Exit.then _ _ Exit.normal _ _
              clear hX19 hz19 hS19 k16 k1417
              have hD : ((x ++ H).map U8).toArray = d2 := hd2
              have HD := Lib.hid hD
              have hPP2 := HPP.out.upd0 hT19
              have hOw2 := HOw.out.upd0 hT19
              have k142 := hT19.heap k14 (by simp)
              have hb2 : B13 ≤ w19.heap.size := by have := hT19.size; omega
              have hPl' := hPl
              have HPL' := Lib.hid hPl'
              have hV2 := HV.out.trans hT19
              clear hD hPl' hPl
              go_wp2_with (first
                | (with_reducible refine arm_load (by with_unfolding_all exact rfl) k19 Tryd.underlying48 (by with_unfolding_all exact rfl) hsp2 ?_)
                | (with_reducible refine bsP HD.out (by simp [hHl, hxl]) (by with_unfolding_all exact rfl) ?_))
              intro g20 w20 hg20 k20 hU20
              have hPP3 := hPP2.upd0 hU20
              have hOw3 := hOw2.upd0 hU20
              have k143 := hU20.heap k142 (by simp)
              have k163 := hU20.heap k19 (by simp)
              have hb3 : B13 ≤ w20.heap.size := by have := hU20.size; omega
              have hlt16 : ∀ k, u13.ownBlock = some k → k < wo.heap.size := fun k hk => (HPP.out.lt k hk).2
              have hge : ∀ k, u13.ownBlock = some k → B13 ≤ k := fun k hk => (HPP.out.lt k hk).1
              go_wp2_with (with_reducible refine appendP (by with_unfolding_all exact rfl) (by with_unfolding_all exact rfl) hPP3 k20 hxl hHl (by have := HPL'.out; omega) hb3 ?_)
              intro v21 w21 hP21 hU21
              have k1621 := hU21.heap k163 (fun hm => by have := hlt16 b16 (by simpa using hm); omega)
              have k1421 := hU21.heap k143 (fun hm => by have := hge b14 (by simpa using hm); omega)
              have hOw21 := hOw3.upd hU21 (fun k hk hm => by have h1 := HW14.out k hk; have h2 := hge k (by simpa using hm); omega)
              have hV21 : Upd [] w w21 := (hV2.trans hU20).row hU21 (fun g hg => by have := hge g hg; have := HB.out; omega)
              have hs21 : B13 ≤ w21.heap.size := by have := hU21.size; omega
              have kk : w21.heap[b16]? = some (.cells (x.map U8 ++ H.map U8).toArray 48 (0, 0)) := by rw [← List.map_append, HD.out]; exact k1621
              have ra := range_of_row kk 0 (x.map U8) ⟨[], H.map U8, by simp, rfl⟩
              have rb := range_of_row kk 32 (H.map U8) ⟨x.map U8, [], by simp, by simp [hxl]⟩
              have hz1 := szlist hxl
              have hz2 := szlist hHl
              have hNl : (nodeH x H).length = 32 := nodeH_length _ _
              have hN := node_ w21 x H hxl hHl (HG.out.upd hV21 (by simp)) (HF.out.upd hV21 (by simp))
              have hsN := szrow hNl
              have haN := oneAll (nodeH x H)
              have hoN : cH.size = ((nodeH x H).map U8).toArray.size := by rw [← hcH]; simp [hHl, hNl]
              have hnext : climbH leaf (R.take (q + 1)) (P.take (q + 1)) = nodeH x H := by rw [HST.out, hH, hy, hx]; rfl
              have hpairs : pairsOf leaf (R.take (q + 1)) (P.take (q + 1)) = pairsOf leaf (R.take q) (P.take q) ++ [(x, H)] := by rw [HPT.out, hH, hy, hx]; rfl
              obtain ⟨N, hNe⟩ : ∃ N, nodeH x H = N := ⟨_, rfl⟩
              rw [hNe] at hN hsN haN hoN hnext
              obtain ⟨cN, hcN⟩ : ∃ c, (N.map U8).toArray = c := ⟨_, rfl⟩
              obtain ⟨la, hla⟩ : ∃ l, x.map U8 = l := ⟨_, rfl⟩
              obtain ⟨lb, hlb⟩ : ∃ l, H.map U8 = l := ⟨_, rfl⟩
              rw [hla] at ra hz1 hN
              rw [hlb] at rb hz2 hN
              rw [hcN] at hN hsN haN hoN
              have HN := Lib.hid hN
              have HNEXT := Lib.hid hnext
              have HPAIRS := Lib.hid hpairs
              have HCN := Lib.hid hcN
              clear hPP2 hOw2 k142 hPP3 hOw3 k143 k163 k20 hg20 hU20 hU21 kk k1621 hN hnext hpairs hNl hNe hcN hla hlb hV2
              go_wp2_with (first
                | (with_reducible refine arm_load_mid (g := b16) (k := 0) (by with_unfolding_all exact rfl) ra Tryd.underlying27 rfl hz1 ?_)
                | (with_reducible refine arm_load_mid (g := b16) (k := 32) (by with_unfolding_all exact rfl) rb Tryd.underlying27 rfl hz2 ?_))
              with_reducible refine HN.out.mono ?_
              rintro e w22 ⟨rfl, hU22⟩
              have k1422 := hU22.heap k1421 (by simp)
              go_wp2_with (with_reducible refine arm_store (by with_unfolding_all exact rfl) (by with_unfolding_all exact rfl) k1422 hsN hoN haN ?_)
              intro w23 k23 hX23 hz23
              have hP23 := (hP21.upd0 hU22).upd hX23 (fun k hk hm => by have h1 := ((hP21.upd0 hU22).lt k hk).1; simp at hm; omega)
              have hOw23 := (hOw21.upd0 hU22).upd hX23 (fun k hk hm => by have h1 := HW14.out k hk; simp at hm; omega)
              have hV23 := (hV21.trans hU22).trans' hX23 (fun i hm hi => by have := HB.out; simp at hm; omega)
              have hs23 : B13 ≤ w23.heap.size := by have := hU22.size; omega
              have HP23 := Lib.hid hP23
              have HOw23 := Lib.hid hOw23
              have HV23 := Lib.hid hV23
              have K23 := Lib.hid k23
              clear hP23 hOw23 hV23 k23 hX23 hz23 hU22 k1422 hP21 hOw21 hV21 k1421 ra rb
              go_wp2_with (fail)
              go_roundw
              case rel => exact ⟨q + 1, by omega, by go_num, by rw [HPAIRS.out]; exact HP23.out, HOw23.out, by rw [HNEXT.out, HCN.out]; exact K23.out, HV23.out, hs23⟩
              case measure => simp [intOf]; omega
          · obtain rfl : q = L := by omega
            have h' : ¬ ((q : Int) < (q : Int)) := by omega
            have hR2 : R.take q = R := List.take_of_length_le (by rw [HSR.out]; omega)
            have hP2 : P.take q = P := List.take_of_length_le (by rw [HM.out]; omega)
            have hfin := HPP.out
            rw [hR2, hP2, ← HRR.out] at hfin
            have hbt : (l.length == q) = true := by rw [HL.out]; simp
            have HFIN := Lib.hid hfin
            have HBT := Lib.hid hbt
            clear hfin hbt hR2 hP2 k14
            go_wp2_with (fail)
            go_ret2
            exact ⟨_, true, rfl, HBT.out.symm, (fun _ => ⟨HFIN.out.1, own_mono HFIN.out.2 (fun k hk => by have := (HFIN.out.lt k hk).1; omega)⟩), (fun h => Bool.noConfusion h), HV.out⟩
      · have hnel : ((L : Int) != (m : Int)) = true := by simp; omega
        have hbb : (l.length == m) = false := by rw [HL.out]; simp [hlen]
        have HBBF := Lib.hid hbb
        clear k4 hbb
        go_wp2_with (fail)
        go_ret2
        exact ⟨_, false, rfl, HBBF.out.symm, (fun h => Bool.noConfusion h), (fun _ => rfl), hV⟩
end Go.Proofs.YtdfoffheolbokaaDoor
