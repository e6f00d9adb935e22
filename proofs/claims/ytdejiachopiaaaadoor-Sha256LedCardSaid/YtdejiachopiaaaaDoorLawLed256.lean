/-
  The law Sha256Led: for every message it returns true and makes only new memory.
-/
import Derived.Test.YtdejiachopiaaaaDoorRefSum256
import Derived.Test.YtdejiachopiaaaaDoorKnown256
import Derived.Deep.CutBlock
namespace Go.Proofs.YtdejiachopiaaaaDoor
open Go Go.RowKit Go.Proofs
set_option maxRecDepth 100000 in
set_option maxHeartbeats 1600000 in
theorem start256 (w : World) : Calls Tryd.prog 24 #[] w fun e w' => e = .returned (.agg (first256.list.map U32).toArray) ∧ Upd [] w w' := by
  have hall : ((first256.list.map U32).toArray).all (·.oneCell') = true := by simp
  have HA := Lib.hid hall
  clear hall
  go_enter Tryd.func24, Tryd.ntmps24
  go_wp2_with (first | (refine wpList_build_eq rfl 30 _ rfl (first256.list.map U32).toArray (by kernel_rfl) ?_) | (refine wpList_store_row rfl 30 _ _ rfl w.heap.size (first256.list.map U32).toArray rfl rfl 30 (zrow32 8) (hget_new rfl) size_s32 rfl HA.out ?_))
  refine bodyPost_ret (v := .agg (first256.list.map U32).toArray) ?hr rfl ?hR
  case hr =>
    refine results_cell_row rfl _ _ w.heap.size 30 (first256.list.map U32).toArray (0, 0) _ rfl ?_ Tryd.underlying30 rfl size_s32
    exact setRow_heap _ _ _ _ 30 (0, 0) (hget_new rfl)
  case hR => exact ⟨rfl, ((Upd.refl [] w).alloc _).setRow _ _ (by omega)⟩
theorem pad256_zero (x : BitVec 64) : (pad256 x)[0]? = some 128 := rfl
set_option maxRecDepth 100000 in
set_option maxHeartbeats 6400000 in
theorem law_led256 (w : World) (v : Value) (m : List (BitVec 8)) (hv : RdB w v m) (hm : m.length ≤ 140737488355232) (hg : Gl256 w) (hf : GlFirst256 w) :
    Calls Tryd.prog 6 #[v] w fun e w' => e = .returned (.bool true) ∧ Upd [] w w' := by
  obtain ⟨A, cap, rfl, hcap1, hcap2⟩ := hv.isSlice
  obtain ⟨p, hp⟩ : ∃ p, pad256 (BitVec.ofNat 64 m.length) = p := ⟨_, rfl⟩
  have hpl : 9 ≤ p.length ∧ p.length ≤ 72 := by rw [← hp, pad256_length]; have := noughts256_lt (BitVec.ofNat 64 m.length); omega
  have hp0 : p[0]? = some 128 := by rw [← hp]; rfl
  have hblk : ∃ n, m.length + p.length = 64 * n := by
    refine ⟨(m.length + p.length) / 64, ?_⟩
    rw [← hp, pad256_length]
    unfold noughts256
    have e : (BitVec.ofNat 64 m.length).toNat = m.length := by rw [BitVec.toNat_ofNat]; exact Nat.mod_eq_of_lt (by omega)
    rw [e]
    omega
  have hpads := fun w => padof256 w (BitVec.ofNat 64 m.length)
  rw [hp] at hpads
  have HPADS := Lib.hid hpads
  have HP := Lib.hid hp
  have HV := Lib.hid hv
  have HG := Lib.hid hg
  have HF := Lib.hid hf
  obtain ⟨n, hn⟩ := hblk
  obtain ⟨pl, hpl'⟩ : ∃ pl, p.length = pl := ⟨_, rfl⟩
  rw [hpl'] at hn hpl
  have HPL := Lib.hid hpl'
  have HN0 := Lib.hid hn
  have hmod : (((m.length : Int) + (pl : Int)) % 64 != 0) = false := by rw [bne_eq_false_iff_eq]; omega
  clear hp hpads hv hg hf hpl'
  go_enter Tryd.func6, Tryd.ntmps6
  go_upto_region 2 with (go_at_call 23; refine (HPADS.out _).mono ?_; rintro e w1 ⟨v1, rfl, hO1, hU1⟩)
  obtain ⟨g1, c1, rfl, hg1, hg1', hc1, hc1'⟩ := hO1.at (by have := HPL.out; omega)
  have hcell0 : w1.cell? ⟨g1, 0, none⟩ = some (U8 128) := by
    have h0 : 0 < p.length := by have := HPL.out; omega
    have := hO1.cell 0 h0
    rw [List.getElem?_eq_getElem h0] at hp0
    rw [this, Option.some.inj hp0]
  rw [HPL.out] at hO1 hc1 ⊢
  have HO1 := Lib.hid hO1
  have hd1 : decide ((pl : Int) < 9) = false := by simp; omega
  have hd2 : decide (72 < (pl : Int)) = false := by simp; omega
  have hplI : (9 : Int) ≤ (pl : Int) ∧ (pl : Int) ≤ 72 := by omega
  obtain ⟨hpl1, hpl2⟩ := hplI
  clear hO1 hn hp0
  go_upto_region 4 with (fail)
  clear hd1 hd2 hmod hcell0
  obtain ⟨B, hB⟩ : ∃ B, w.heap.size = B := ⟨_, rfl⟩
  have HB := Lib.hid hB
  rw [hB] at hg1
  clear hB
  go_upto_region 7 with (first
    | (at_builtin; refine append_rd rfl _ _ rfl B (.slice none 0 0) [] (by rfl) (OwnB.nil _ _) _ m (by rfl) (HV.out.upd0 hU1) (by simp; omega) (by have := HB.out; have := hU1.size; omega) ?_; intro v2 w2 hO2 _ hU2 hG2; simp only [List.nil_append] at hO2 hG2)
    | (at_builtin; refine append_rd rfl _ _ rfl B v2 m (by rfl) hO2 _ p (by rfl) (by have := (HO1.out.rd).upd hU2 (by simp [Value.ownBlock]); exact this) (by have := HPL.out; omega) (by have := HB.out; have := hU1.size; have := hU2.size; omega) ?_; intro v4 w4 hO4 _ hU4 hG4))
  have hU5 : Upd [] w w4 := by
    have h2 : Upd [] w w2 := hU1.trans' hU2 (fun i hi _ => by simp [Value.ownBlock] at hi)
    exact h2.row hU4 (fun g hg => by have := (hO2.lt g hg).1; have := HB.out; omega)
  obtain ⟨L, hL⟩ : ∃ L, m ++ p = L := ⟨_, rfl⟩
  have hn : L.length = 64 * n := by rw [← hL, List.length_append, HPL.out]; exact HN0.out
  rw [hL] at hO4 hG4
  have hLlen : 9 ≤ L.length ∧ L.length ≤ 140737488355328 := by rw [← hL, List.length_append, HPL.out]; omega
  obtain ⟨g, c4, rfl, hgB, hgl, hc4, hc4'⟩ := hO4.at (by omega)
  have hsum : sha256 m = hash32 (led block256 64 first256 L n) := by
    rw [sha256, padded256, HP.out, hL, hn, Nat.mul_div_cancel_left n (by omega)]
  have hfirst := fun w => start256 w
  have HSUM := Lib.hid hsum
  have HN := Lib.hid hn
  have HO4 := Lib.hid hO4
  have HFIRST := Lib.hid hfirst
  have HLL := Lib.hid hLlen
  clear hsum hn hO4 hO2 hU1 hU2 hU4 hG2 hG4 hfirst HPADS HP hL hpl HPL HO1 hg1 hg1' hc1 hc1' hpl1 hpl2
  go_upto_region 8 with (first
    | (go_at_call 24; refine (HFIRST.out _).mono ?_; rintro e w5 ⟨rfl, hU6⟩)
    | (refine wpList_store_row rfl 30 _ _ rfl _ (first256.list.map U32).toArray rfl rfl 30 _ (hget_new rfl) size_s32 rfl (by simp) ?_))
  go_simp
  obtain ⟨S, hS⟩ : ∃ S, w5.heap.size = S := ⟨_, rfl⟩
  have hSB : w.heap.size ≤ S ∧ B ≤ S ∧ g < S := by have := hU5.size; have := hU6.size; have := HB.out; omega
  generalize hw6 : World.setRow (World.alloc w5 _) _ _ = w6
  have hU7 : Upd [] w w6 := by rw [← hw6]; exact ((hU5.trans hU6).alloc _).setRow _ _ (by omega)
  have h6 : w6.heap[S]? = some (.cells (first256.list.map U32).toArray 30 (0, 0)) := by rw [← hw6, hS]; exact setRow_heap _ _ _ _ 30 (0, 0) (hget_new hS.symm)
  have h6L : OwnB w6 B (.slice (some ⟨g, 0, none⟩) L.length c4) L := by rw [← hw6]; exact ((HO4.out.upd0 hU6).alloc _).upd ((Upd.refl [w5.heap.size] _).setRow _ _ (by simp)) (by simp [Value.ownBlock]; omega)
  rw [hS]
  have H6 := Lib.hid h6
  have H6L := Lib.hid h6L
  obtain ⟨N, hN⟩ : ∃ N, L.length = N := ⟨_, rfl⟩
  rw [hN] at H6L HN hLlen hc4 ⊢
  have HNN := Lib.hid hN
  clear hw6 hS h6 h6L HO4 hU5 hU6 hN HLL hgl
  go_wp2
  go_loopw [6] (fun i wr => ∃ k a : Nat, a = 64 * k ∧ k ≤ n ∧ i = .int .i64 a ∧ Upd [] w wr ∧ Hid (wr.heap[S]? = some (.cells ((led block256 64 first256 L k).list.map U32).toArray 30 (0, 0)) ∧ OwnB wr B (.slice (some ⟨g, 0, none⟩) N c4) L)) (fun i _ => N - (intOf i).toNat)
  case atStart => exact ⟨0, 0, rfl, by omega, rfl, hU7, ⟨H6.out, H6L.out⟩⟩
  case round =>
    obtain ⟨k, a, ha, hk, rfl, hU, HR⟩ := hrel
    by_cases hlt : k < n
    · have hbl : a + 64 ≤ N ∧ a < N := by have := HN.out; omega
      have hai : (a : Int) < (N : Int) := by omega
      have haN : (a : Int) + 64 ≤ 140737488355328 := by omega
      have HA := Lib.hid ha
      clear ha
      obtain ⟨wo, rfl⟩ : ∃ wo : World, wo = wr := ⟨_, rfl⟩
      obtain ⟨D, hD⟩ : ∃ D, wo.heap.size = D := ⟨_, rfl⟩
      obtain ⟨blk, hblk⟩ : ∃ blk, (L.drop a).take 64 = blk := ⟨_, rfl⟩
      have hbl64 : blk.length = 64 := by rw [← hblk]; simp; have := HNN.out; omega
      have hget : ∀ j (h : j < 64), ∃ y, L[a + j]? = some y ∧ blk[j]? = some y := by
        intro j hj
        have h1 : a + j < L.length := by have := HNN.out; omega
        refine ⟨L[a + j], List.getElem?_eq_getElem h1, ?_⟩
        rw [← hblk, List.getElem?_take_of_lt hj, List.getElem?_drop, List.getElem?_eq_getElem h1]
      have HGET := Lib.hid hget
      have HBLK := Lib.hid hblk
      have HD := Lib.hid hD
      clear hget hblk
      go_upto_block 2 with (fail)
      generalize hw7 : World.alloc wo _ = w7
      have hU8 : Upd [] wo w7 := by rw [← hw7]; exact (Upd.refl _ wo).alloc _
      have h7 : w7.heap[D]? = some (.cells ((upTo blk 64 0).map U8).toArray 31 (0, 0)) := by rw [← hw7]; exact hget_new hD.symm
      have H7 := Lib.hid h7
      clear hw7 hD h7
      go_wp2
      go_loopw [8] (fun i wr => ∃ j : Nat, j ≤ 64 ∧ i = .int .i64 j ∧ Upd [] wo wr ∧ Hid (wr.heap[D]? = some (.cells ((upTo blk 64 j).map U8).toArray 31 (0, 0)))) (fun i _ => 64 - (intOf i).toNat)
      case atStart => exact ⟨0, by omega, rfl, hU8, H7⟩
      case round =>
        obtain ⟨j, hj, rfl, hUi, HD7⟩ := hrel
        by_cases hjl : j < 64
        · obtain ⟨y, hy1, hy2⟩ := HGET.out j hjl
          have hOL := (HR.out.2).upd0 hUi
          have haj : a + j < L.length := by have := HNN.out; omega
          have hc : wr.cell? ⟨g, a + j, none⟩ = some (U8 y) := by
            have := OwnB.cell (n := N) hOL (a + j) haj
            rw [this]
            rw [List.getElem?_eq_getElem haj] at hy1
            rw [Option.some.inj hy1]
          have hup := upTo_length blk 64 j hbl64 hj
          have hcell : ∃ z, wr.cell? ⟨D, j, none⟩ = some (U8 z) := by
            rw [cell_of_row _ _ j _ _ _ HD7.out]
            have : j < (upTo blk 64 j).length := by rw [hup]; exact hjl
            exact ⟨(upTo blk 64 j)[j], by simp [this]⟩
          obtain ⟨z, hcell⟩ := hcell
          have hfr : wr.frozen? ⟨D, j, none⟩ = false := frozen_of_row _ _ j _ _ HD7.out
          have hset := heap_setCell_same wr D j _ 31 (U8 y) HD7.out
          have hjb : j < blk.length := by omega
          have hyb : blk[j]'hjb = y := by rw [List.getElem?_eq_getElem hjb] at hy2; exact Option.some.inj hy2
          have hst := upTo_step blk 64 j hbl64 hjl
          rw [hyb] at hst
          rw [List.setIfInBounds_toArray, ← List.map_set, hst] at hset
          have HSET := Lib.hid hset
          have haji : (a : Int) + (j : Int) < (N : Int) := by omega
          have hji : (j : Int) < 64 := by omega
          have hUs : Upd [] wo (wr.setCell ⟨D, j, none⟩ (U8 y)) := hUi.setCell _ _ (by have := HD.out; simp; omega)
          clear hset hst hyb hy1 hy2 hOL hup
          go_wp2
          go_roundw
          case rel => exact ⟨j + 1, by omega, by go_num, hUs, HSET⟩
          case measure => simp [intOf]; omega
        · obtain rfl : j = 64 := by omega
          have hD7 := HD7.out
          rw [upTo_all blk 64 hbl64] at hD7
          have hRS := hUi.heap HR.out.1 (by simp)
          obtain ⟨st, hst⟩ : ∃ st, led block256 64 first256 L k = st := ⟨_, rfl⟩
          rw [hst] at hRS
          have hs64 : (Tryd.prog.info? 31).map (·.size) = some ((blk.map U8).toArray).size := by simp only [List.size_toArray, List.length_map, hbl64]; exact size_b64
          have hblock := fun w h => block256_any w st blk hbl64 h
          obtain ⟨st2, hst2⟩ : ∃ st2, block256 st blk = st2 := ⟨_, rfl⟩
          rw [hst2] at hblock
          have HST := Lib.hid hst
          have HST2 := Lib.hid hst2
          have HBL := Lib.hid hblock
          clear hst hst2 hblock
          go_wp2_with (first
            | (refine wpList_load_row rfl 30 _ rfl S rfl 30 _ (0, 0) _ hRS Tryd.underlying30 rfl size_s32 ?_)
            | (refine wpList_load_row rfl 31 _ rfl D rfl 31 _ (0, 0) _ hD7 Tryd.underlying31 rfl hs64 ?_)
            | (go_at_call 17; refine (HBL.out _ (HG.out.upd (hU.trans hUi) (by simp))).mono ?_; rintro e w8 ⟨rfl, hU9⟩)
            | (refine wpList_store_row rfl 30 _ _ rfl S (st2.list.map U32).toArray rfl rfl 30 _ (hU9.heap hRS (by simp)) size_s32 rfl (by simp) ?_))
          go_simp
          go_wp2
          have hL2 : OwnB (w8.setRow S (st2.list.map U32).toArray) B (.slice (some ⟨g, 0, none⟩) N c4) L :=
            (((HR.out.2).upd0 hUi).upd0 hU9).upd ((Upd.refl [S] w8).setRow S _ (by simp)) (by simp [Value.ownBlock]; omega)
          refine ⟨⟨k + 1, ?_, ?_, ?_, ?_⟩, ?_⟩
          · have h2 := HA.out; clear HA HN HD; omega
          · have h2 := HA.out; clear HA HN HD; omega
          · exact ((hU.trans hUi).trans hU9).setRow _ _ (by omega)
          · refine ⟨?_, hL2⟩
            rw [setRow_heap w8 S _ _ 30 (0, 0) (hU9.heap hRS (by simp)), led, ← HA.out, HBLK.out, HST.out, HST2.out]
          · simp [intOf]; omega
    · obtain rfl : k = n := by omega
      obtain rfl : a = N := by have := HN.out; omega
      obtain ⟨hRS, _⟩ := HR.out
      obtain ⟨st, hst⟩ : ∃ st, led block256 64 first256 L k = st := ⟨_, rfl⟩
      rw [hst] at hRS
      have hsm : sha256 m = hash32 st := by rw [HSUM.out, hst]
      obtain ⟨H, hH⟩ : ∃ H, hash32 st = H := ⟨_, rfl⟩
      have hHl : H.length = 32 := by rw [← hH]; exact hash32_length st
      have hget : ∀ i (h : i < 32), H[i]'(by omega) = (st.list.getD (i / 4) 0 >>> (24 - 8 * (i % 4))).setWidth 8 := by subst hH; exact hash32_get st
      rw [hH] at hsm
      have hs1 := fun w v h1 h3 h4 => sum256 w v m h1 (by omega) h3 h4
      rw [hsm] at hs1
      have S1 := Lib.hid hs1
      have HGET := Lib.hid hget
      have HRS := Lib.hid hRS
      have hs : (Tryd.prog.info? 39).map (·.size) = some ((H.map U8).toArray).size := by simp only [List.size_toArray, List.length_map, hHl]; exact size_h32
      have ho : (zrow8 32).size = ((H.map U8).toArray).size := by simp only [List.size_toArray, List.length_map, hHl, zrow8_size]
      have hal : ((H.map U8).toArray).all (·.oneCell') = true := by simp
      clear hst hH hsm hs1 hget hRS ha
      go_upto_region 18 with (first
        | (go_at_call 20; refine (S1.out _ _ (HV.out.upd0 hU) (HG.out.upd hU (by simp)) (HF.out.upd hU (by simp))).mono ?_; rintro e w7 ⟨rfl, hU9⟩)
        | (refine wpList_store_row rfl 39 _ _ rfl _ (H.map U8).toArray rfl rfl 39 _ (hget_new rfl) hs ho hal ?_))
      go_simp
      obtain ⟨D, hD⟩ : ∃ D, w7.heap.size = D := ⟨_, rfl⟩
      generalize hw8 : World.setRow (World.alloc w7 _) _ _ = w8
      have h8 : w8.heap[D]? = some (.cells (H.map U8).toArray 39 (0, 0)) := by rw [← hw8, hD]; exact setRow_heap _ _ _ _ 39 (0, 0) (hget_new hD.symm)
      have hSD : S < D := by have := lt_of_heap (hU9.heap HRS.out (by simp)); omega
      have h8S : w8.heap[S]? = some (.cells (st.list.map U32).toArray 30 (0, 0)) := by rw [← hw8, setRow_other _ _ _ _ (by omega)]; exact hget_old (hU9.heap HRS.out (by simp))
      have hU10 : Upd [] w w8 := by rw [← hw8]; exact ((hU.trans hU9).alloc _).setRow _ _ (by have := hU.size; have := hU9.size; omega)
      rw [hD]
      have H8 := Lib.hid h8
      have H8S := Lib.hid h8S
      have HU10 := Lib.hid hU10
      clear hw8 hD h8 h8S hU10 hs ho hal hU9 S1 HRS HV
      go_wp2
      go_loopw [10] (fun i wr => ∃ j q : Nat, j ≤ 32 ∧ i = .int .i64 j ∧ wr = w8.drewN q) (fun i _ => 32 - (intOf i).toNat)
      case atStart => exact ⟨0, 0, by omega, rfl, rfl⟩
      case round =>
        obtain ⟨j, d, hj, rfl, rfl⟩ := hrel
        by_cases hlt : j < 32
        · obtain ⟨q, hq⟩ : ∃ q, j / 4 = q := ⟨_, rfl⟩
          obtain ⟨r, hr⟩ : ∃ r, j % 4 = r := ⟨_, rfl⟩
          have hqi : (j : Int) / 4 = (q : Int) := by omega
          have hri : (j : Int) % 4 = (r : Int) := by omega
          have hq8 : q < 8 := by omega
          have hq8i : (q : Int) < 8 := by omega
          have hr4 : r < 4 := by omega
          have hr4i : (r : Int) < 4 := by omega
          have hsh : (8 * (r : Int)) ≤ 24 := by omega
          have hsh0 : 0 ≤ 24 - (8 * (r : Int)) := by omega
          have hsh2 : (24 - (8 * (r : Int))).toNat = 24 - 8 * r := by omega
          have e1 : IntKind.i64.wrap (8 * (r : Int)) = 8 * (r : Int) := IntWalk.i64_in _ (by omega)
          have e2 : IntKind.i64.wrap (24 - 8 * (r : Int)) = 24 - 8 * (r : Int) := IntWalk.i64_in _ (by omega)
          have e3 : (j : Int).tdiv 4 = (q : Int) := by rw [Int.tdiv_eq_ediv_of_nonneg (by omega)]; exact hqi
          have e4 : (j : Int).tmod 4 = (r : Int) := by rw [Int.tmod_eq_emod_of_nonneg (by omega)]; exact hri
          obtain ⟨y, hy⟩ : ∃ y, st.list.getD q 0 = y := ⟨_, rfl⟩
          have hHk := HGET.out j hlt
          rw [hq, hr, hy] at hHk
          have hc : (w8.drewN d).cell? ⟨S, q, none⟩ = some (U32 y) := by
            show w8.cell? _ = _
            rw [cell_of_row _ _ q _ _ _ H8S.out, st_get U32 st q hq8, hy]
          have hc2 : (w8.drewN d).cell? ⟨D, j, none⟩ = some (U8 ((y >>> (24 - 8 * r)).setWidth 8)) := by
            show w8.cell? _ = _
            rw [cell_of_row _ _ j _ _ _ H8.out, ← hHk]
            simp [hHl, hlt]
          obtain ⟨z, hz⟩ : ∃ z, (y >>> (24 - 8 * r)).setWidth 8 = z := ⟨_, rfl⟩
          have hne : (z != z) = false := by simp
          rw [hz] at hc2
          obtain ⟨wr, hwr⟩ : ∃ wr, w8.drewN d = wr := ⟨_, rfl⟩
          rw [hwr] at hc hc2 ⊢
          have HWR := Lib.hid hwr
          have hji : (j : Int) < 32 := by omega
          clear hq hr hy hHk hwr
          go_wp2
          go_quiet (skip)
          rename Nat => nq
          go_wp2
          go_roundw
          case rel => exact ⟨j + 1, d + nq, by omega, by go_num, by rw [← HWR.out, World.drewN_drewN]⟩
          case measure => simp [intOf]; omega
        · obtain rfl : j = 32 := by omega
          obtain ⟨wr, hwr⟩ : ∃ wr, w8.drewN d = wr := ⟨_, rfl⟩
          have hUr : Upd [] w wr := by rw [← hwr]; exact HU10.out.drewN d
          rw [hwr]
          clear hwr
          go_wp2_with (go_at_call 25; refine (known256 _ (HG.out.upd hUr (by simp)) (HF.out.upd hUr (by simp))).mono ?_; rintro e w9 ⟨rfl, hU11⟩)
          go_ret
          exact ⟨rfl, hUr.trans hU11⟩
end Go.Proofs.YtdejiachopiaaaaDoor
