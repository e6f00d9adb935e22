/-
  The document's Sum of sha512.
-/
import Derived.Test.YtghdininkolanaaDoorDigSum512
import Derived.Test.YtghdininkolanaaDoorRef03c
import Derived.Test.YtghdininkolanaaDoorUpTo
import Derived.Test.YtghdininkolanaaDoorHashGet64
import Derived.Deep.CutBlock
namespace Go.Proofs.YtghdininkolanaaDoor
open Go Go.RowKit Go.Proofs
def GlFirst3 (w : World) : Prop := ∃ T fr, w.heap[1]? = some (.cells (first512.list.map U64).toArray T fr)
theorem GlFirst3.upd {S : List Nat} {w w' : World} (h : GlFirst3 w) (u : Upd S w w') (hn : 1 ∉ S) : GlFirst3 w' := by
  obtain ⟨T, fr, h⟩ := h
  exact ⟨T, fr, u.heap h hn⟩
set_option maxRecDepth 100000 in
set_option maxHeartbeats 3200000 in
theorem refsum512 (w : World) (v : Value) (m : List (BitVec 8)) (hv : RdB w v m) (hm : m.length ≤ 140737488355100) (hg : Gl3 w) (hf : GlFirst3 w) :
    Calls Tryd.prog 12 #[v] w fun e w' => e = .returned (.agg ((sha512 m).map U8).toArray) ∧ Upd [] w w' := by
  obtain ⟨A, cap, rfl, hcap1, hcap2⟩ := hv.isSlice
  obtain ⟨p, hp⟩ : ∃ p, pad512 (BitVec.ofNat 64 m.length) = p := ⟨_, rfl⟩
  have hpl : 17 ≤ p.length ∧ p.length ≤ 144 := by rw [← hp, pad512_length]; have := noughts512_lt (BitVec.ofNat 64 m.length); omega
  have hblk : ∃ n, (m ++ p).length = 128 * n := by
    refine ⟨(m ++ p).length / 128, ?_⟩
    rw [List.length_append, ← hp, pad512_length]
    unfold noughts512
    have e : (BitVec.ofNat 64 m.length).toNat = m.length := by rw [BitVec.toNat_ofNat]; exact Nat.mod_eq_of_lt (by omega)
    rw [e]
    omega
  have hpads := fun w => refpad512 w (BitVec.ofNat 64 m.length)
  rw [hp] at hpads
  have HPADS := Lib.hid hpads
  have HP := Lib.hid hp
  have HV := Lib.hid hv
  have HBLK := Lib.hid hblk
  have HG := Lib.hid hg
  have HF := Lib.hid hf
  clear hp hpads hv hblk hg hf
  go_enter Tryd.func12, Tryd.ntmps12
  go_upto_region 1 with (fail)
  obtain ⟨B, hB⟩ : ∃ B, w.heap.size = B := ⟨_, rfl⟩
  generalize hw1 : World.alloc w _ = w1
  have hU1 : Upd [] w w1 := by rw [← hw1]; exact (Upd.refl _ w).alloc _
  have h1 : w1.heap[B]? = some (.cells (zrow8 64) 46 (0, 0)) := by rw [← hw1]; exact hget_new hB.symm
  have hs1 : w1.heap.size = B + 1 := by rw [← hw1]; simp [hB]
  rw [hB]
  have HB := Lib.hid hB
  have HS1 := Lib.hid hs1
  have HB1 := Lib.hid h1
  clear hB hs1 h1 hw1
  go_upto_region 4 with (first
    | (at_builtin; refine append_rd rfl _ _ rfl (B + 1) (.slice none 0 0) [] (by rfl) (OwnB.nil _ _) _ m (by rfl) (HV.out.upd0 hU1) (by simp; omega) (by have := HS1.out; omega) ?_; intro v2 w2 hO2 _ hU2 hG2; simp only [List.nil_append] at hO2 hG2)
    | (go_at_call 32; refine (HPADS.out _).mono ?_; rintro e w3 ⟨v3, rfl, hO3, hU3⟩)
    | (at_builtin; refine append_rd rfl _ _ rfl (B + 1) v2 m (by rfl) (hO2.upd0 hU3) v3 p (by rfl) hO3.rd (by omega) (by have := HS1.out; have := hU2.size; have := hU3.size; omega) ?_; intro v4 w4 hO4 _ hU4 hG4))
  have hU5 : Upd [] w w4 := by
    have h2 : Upd [] w w2 := hU1.trans' hU2 (fun i hi _ => by simp [Value.ownBlock] at hi)
    exact (h2.trans hU3).row hU4 (fun g hg => by have := (hO2.lt g hg).1; have := HB.out; omega)
  have h4B : w4.heap[B]? = some (.cells (zrow8 64) 46 (0, 0)) := by
    have h2 := hU2.heap HB1.out (by simp [Value.ownBlock])
    exact hU4.heap (hU3.heap h2 (by simp)) (fun h => by have := (hO2.lt B (by simpa using h)).1; omega)
  obtain ⟨L, hL⟩ : ∃ L, m ++ p = L := ⟨_, rfl⟩
  obtain ⟨n, hn⟩ := HBLK.out
  rw [hL] at hn hO4 hG4
  have hLlen : 17 ≤ L.length ∧ L.length ≤ 140737488355328 := by rw [← hL, List.length_append]; omega
  obtain ⟨g, c4, rfl, hgB, hgl, hc4, hc4'⟩ := hO4.at (by omega)
  have hsum : sha512 m = hash64 (led block512 128 first512 L n) := by
    rw [sha512, padded512, HP.out, hL, hn, Nat.mul_div_cancel_left n (by omega)]
  have HSUM := Lib.hid hsum
  have HN := Lib.hid hn
  have HO4 := Lib.hid hO4
  have H4B := Lib.hid h4B
  have HLL := Lib.hid hLlen
  obtain ⟨TF, fF, hF4⟩ := HF.out.upd hU5 (by simp)
  have hs8' : (Tryd.prog.info? 66).map (·.size) = some ((first512.list.map U64).toArray).size := size_s64
  clear hsum hn hO4 hO2 hO3 hU1 hU2 hU3 hU4 hG2 hG4 HB1 HPADS HV HBLK HP h4B hL hpl
  go_upto_region 5 with (first
    | (refine wpList_load_row rfl 66 _ rfl 1 rfl TF _ fF _ hF4 Tryd.underlying66 rfl hs8' ?_)
    | (refine wpList_store_row rfl 66 _ _ rfl _ (first512.list.map U64).toArray rfl rfl 66 _ (hget_new rfl) size_s64 rfl (by simp) ?_))
  go_simp
  obtain ⟨S, hS⟩ : ∃ S, w4.heap.size = S := ⟨_, rfl⟩
  have hSB : w.heap.size ≤ S ∧ B + 1 ≤ S ∧ g < S := by have := hU5.size; have := HB.out; omega
  generalize hw6 : World.setRow (World.alloc w4 _) _ _ = w6
  have hU7 : Upd [] w w6 := by rw [← hw6]; exact (hU5.alloc _).setRow _ _ (by omega)
  have h6 : w6.heap[S]? = some (.cells (first512.list.map U64).toArray 66 (0, 0)) := by rw [← hw6, hS]; exact setRow_heap _ _ _ _ 66 (0, 0) (hget_new hS.symm)
  have h6B : w6.heap[B]? = some (.cells (zrow8 64) 46 (0, 0)) := by rw [← hw6, setRow_other _ _ _ _ (by omega)]; exact hget_old H4B.out
  have h6L : OwnB w6 (B + 1) (.slice (some ⟨g, 0, none⟩) L.length c4) L := by rw [← hw6]; exact (HO4.out.alloc _).upd ((Upd.refl [w4.heap.size] _).setRow _ _ (by simp)) (by simp [Value.ownBlock]; omega)
  rw [hS]
  have H6 := Lib.hid h6
  have H6B := Lib.hid h6B
  have H6L := Lib.hid h6L
  obtain ⟨N, hN⟩ : ∃ N, L.length = N := ⟨_, rfl⟩
  rw [hN] at H6L HN hLlen hc4 ⊢
  have HNN := Lib.hid hN
  clear hw6 hS h6 h6B h6L HO4 H4B hU5 hN HLL hgl hF4
  go_wp2
  go_loopw [5] (fun i wr => ∃ k a : Nat, a = 128 * k ∧ k ≤ n ∧ i = .int .i64 a ∧ Upd [] w wr ∧ Hid (wr.heap[S]? = some (.cells ((led block512 128 first512 L k).list.map U64).toArray 66 (0, 0)) ∧ wr.heap[B]? = some (.cells (zrow8 64) 46 (0, 0)) ∧ OwnB wr (B + 1) (.slice (some ⟨g, 0, none⟩) N c4) L)) (fun i _ => N - (intOf i).toNat)
  case atStart => exact ⟨0, 0, rfl, by omega, rfl, hU7, ⟨H6.out, H6B.out, H6L.out⟩⟩
  case round =>
    obtain ⟨k, a, ha, hk, rfl, hU, HR⟩ := hrel
    by_cases hlt : k < n
    · have hbl : a + 128 ≤ N ∧ a < N := by have := HN.out; omega
      have hai : (a : Int) < (N : Int) := by omega
      have haN : (a : Int) + 128 ≤ (c4 : Int) := by omega
      have haN2 : (a : Int) + 128 ≤ (N : Int) := by omega
      have haN0 : (0 : Int) ≤ (a : Int) := by omega
      have e1 : IntKind.i64.wrap ((a : Int) + 128) = (a : Int) + 128 := IntWalk.i64_in _ (by unfold maxLen at hc4'; omega)
      have e2 : (0 : Int) ≤ (a : Int) + 128 := by omega
      have e3 : ((a : Int) + 128).toNat = a + 128 := by omega
      have HA := Lib.hid ha
      obtain ⟨blk, hblk⟩ : ∃ blk, (L.drop a).take 128 = blk := ⟨_, rfl⟩
      have hbl64 : blk.length = 128 := by rw [← hblk]; simp; have := HNN.out; omega
      obtain ⟨st, hst⟩ : ∃ st, led block512 128 first512 L k = st := ⟨_, rfl⟩
      have hRS : ∀ w', (∃ n, w' = wr.drewN n) → ∃ t fr, w'.heap[S]? = some (.cells (st.list.map U64).toArray t fr) := fun w' h => by
        obtain ⟨q, rfl⟩ := h
        exact ⟨_, _, by rw [← hst]; exact HR.out.1⟩
      have hblkB : ∀ q, Bytes (wr.drewN q) g a blk := fun q => by
        have := ((HR.out.2.2.bytes).drop a).take 128
        rw [hblk, Nat.zero_add] at this
        exact this
      have HRS := Lib.hid hRS
      have HBK := Lib.hid hblkB
      have HBLK := Lib.hid hblk
      have HST := Lib.hid hst
      have hac : ¬ c4 = a := by omega
      clear ha hblk hst hRS hblkB
      go_upto_region 8 with (fail)
      refine wp_region_quiet_tail 6 (fun w' => ∃ n, w' = wr.drewN n) (by kernel_rfl) (by kernel_rfl) ⟨1, rfl⟩ ?_
      simp only [List.take_succ_cons, List.take_zero, List.drop_succ_cons, List.drop_zero]
      repeat (first
        | (refine wpQuiet_val rfl (quiet_load_row 66 _ rfl S rfl _ HRS.out Tryd.underlying66 rfl size_s64) ?_)
        | (refine wpQuiet_step (fun K hK => ?_); go_simp; (try go_bits); (refine hK _ ?_; clear hK K)))
      refine wpQuiet_nil ?_
      rintro _ ⟨nq, rfl⟩
      have hUq : Upd [] w (wr.drewN nq) := hU.drewN nq
      have hstep := fun h => refstep64 (wr.drewN nq) st g a (c4 - a) blk hbl64 (HBK.out nq) ⟨by omega, by omega⟩ h
      obtain ⟨st2, hst2⟩ : ∃ st2, block512 st blk = st2 := ⟨_, rfl⟩
      rw [hst2] at hstep
      have HST2 := Lib.hid hst2
      have HSTEP := Lib.hid hstep
      have hRS2 : (wr.drewN nq).heap[S]? = some (.cells (st.list.map U64).toArray 66 (0, 0)) := by rw [← HST.out]; exact HR.out.1
      have HRS2 := Lib.hid hRS2
      clear hst2 hstep hRS2 e1 e2 e3 haN haN2
      go_wp2_with (first
        | (go_at_call 33; refine (HSTEP.out (HG.out.upd hUq (by simp))).mono ?_; rintro e w8 ⟨rfl, hU9⟩)
        | (refine wpList_store_row rfl 66 _ _ rfl S (st2.list.map U64).toArray rfl rfl 66 _ (hU9.heap HRS2.out (by simp)) size_s64 rfl (by simp) ?_))
      go_simp
      go_wp2
      have hL2 : OwnB (w8.setRow S (st2.list.map U64).toArray) (B + 1) (.slice (some ⟨g, 0, none⟩) N c4) L :=
        (((HR.out.2.2).drew nq).upd0 hU9).upd ((Upd.refl [S] w8).setRow S _ (by simp)) (by simp [Value.ownBlock]; omega)
      refine ⟨⟨k + 1, ?_, ?_, ?_, ?_⟩, ?_⟩
      · have h2 := HA.out; clear HA HN; omega
      · have h2 := HA.out; clear HA HN; omega
      · exact (hUq.trans hU9).setRow _ _ (by omega)
      · refine ⟨?_, ?_, hL2⟩
        · rw [setRow_heap w8 S _ _ 66 (0, 0) (hU9.heap HRS2.out (by simp)), led, ← HA.out, HBLK.out, HST.out, HST2.out]
        · rw [setRow_other _ _ _ _ (by omega)]; exact hU9.heap (show (wr.drewN nq).heap[B]? = _ from HR.out.2.1) (by simp)
      · simp [intOf]; omega
    · obtain rfl : k = n := by omega
      obtain rfl : a = N := by have := HN.out; omega
      obtain ⟨hRS, hRB, _⟩ := HR.out
      obtain ⟨st, hst⟩ : ∃ st, led block512 128 first512 L k = st := ⟨_, rfl⟩
      rw [hst] at hRS
      have HSUM' : Hid (sha512 m = hash64 st) := by rw [HSUM.out, hst]; rfl
      obtain ⟨H, hH⟩ : ∃ H, hash64 st = H := ⟨_, rfl⟩
      have hHl : H.length = 64 := by rw [← hH]; exact hash64_length st
      have hget : ∀ i j (h : i < 8) (h' : j < 8), H[8 * i + j]? = some ((tell64 (st.list.getD i 0)).getD j 0) := by
        intro i j hi hj
        have h1 := hash64_get st (8 * i + j) (by omega)
        rw [show (8 * i + j) / 8 = i by omega, show (8 * i + j) % 8 = j by omega] at h1
        obtain ⟨y, hy⟩ : ∃ y, st.list.getD i 0 = y := ⟨_, rfl⟩
        rw [hy] at h1 ⊢
        rw [List.getD_eq_getElem?_getD, List.getElem?_eq_getElem (show j < (tell64 y).length by rw [tell64_length]; exact hj), tell64_get y j hj, ← hH, List.getElem?_eq_getElem (by rw [hash64_length]; omega), h1]
        rfl
      have HGET := Lib.hid hget
      have HRS := Lib.hid hRS
      have HRB := Lib.hid hRB
      have HH := Lib.hid hH
      clear hst hH hget hRS hRB ha HR
      go_upto_region 10 with (fail)
      obtain ⟨D, hD⟩ : ∃ D, wr.heap.size = D := ⟨_, rfl⟩
      have hSD : S < D := by have := lt_of_heap HRS.out; omega
      generalize hw7 : World.alloc wr _ = w7
      have hU8 : Upd [] w w7 := by rw [← hw7]; exact hU.alloc _
      have h7 : w7.heap[D]? = some (.cells ((upTo H 64 0).map U8).toArray 46 (0, 0)) := by rw [← hw7]; exact hget_new hD.symm
      have h7S : w7.heap[S]? = some (.cells (st.list.map U64).toArray 66 (0, 0)) := by rw [← hw7]; exact hget_old HRS.out
      have h7B : w7.heap[B]? = some (.cells (zrow8 64) 46 (0, 0)) := by rw [← hw7]; exact hget_old HRB.out
      rw [hD]
      have H7 : Hid (w7.heap[D]? = some (.cells ((upTo H 64 (8 * 0)).map U8).toArray 46 (0, 0)) ∧ w7.heap[S]? = some (.cells (st.list.map U64).toArray 66 (0, 0)) ∧ w7.heap[B]? = some (.cells (zrow8 64) 46 (0, 0))) := ⟨h7, h7S, h7B⟩
      have HDW : Hid (w.heap.size ≤ D) := by have := hU.size; show _ ≤ _; omega
      clear hw7 hD h7 h7S h7B HRS HRB hU
      go_wp2
      go_loopw [7] (fun i wr => ∃ k : Nat, k ≤ 8 ∧ i = .int .i64 k ∧ Upd [] w wr ∧ Hid (wr.heap[D]? = some (.cells ((upTo H 64 (8 * k)).map U8).toArray 46 (0, 0)) ∧ wr.heap[S]? = some (.cells (st.list.map U64).toArray 66 (0, 0)) ∧ wr.heap[B]? = some (.cells (zrow8 64) 46 (0, 0)))) (fun i _ => 8 - (intOf i).toNat)
      case atStart => exact ⟨0, by omega, rfl, hU8, H7⟩
      case round =>
        clear hU8
        obtain ⟨j, hj, rfl, hU, HR⟩ := hrel
        by_cases hlt : j < 8
        · obtain ⟨y, hy⟩ : ∃ y, st.list.getD j 0 = y := ⟨_, rfl⟩
          have hc : wr.cell? ⟨S, j, none⟩ = some (U64 y) := by rw [cell_of_row _ _ j _ _ _ HR.out.2.1, st_get U64 st j hlt, hy]
          have hji : (j : Int) < 8 := by omega
          have HY := Lib.hid hy
          have hDr : D < wr.heap.size := lt_of_heap HR.out.1
          clear hy
          go_upto_region 14 with (go_at_call 34; refine (reftell64 _ y).mono ?_; rintro e w8 ⟨vt, rfl, hO, hU9⟩)
          obtain ⟨gt, ct, rfl, hgt1, hgt2, hct, hct'⟩ := hO.at (by rw [tell64_length]; omega)
          obtain ⟨Tl, hTl⟩ : ∃ T, tell64 y = T := ⟨_, rfl⟩
          have hTll : Tl.length = 8 := by rw [← hTl]; exact tell64_length y
          rw [hTl] at hO hct ⊢
          rw [hTll] at hO hct ⊢
          have hby := hO.bytes
          have HTL := Lib.hid hTl
          have HBY := Lib.hid hby
          have HR8 : Hid (w8.heap[D]? = some (.cells ((upTo H 64 (8 * j + 0)).map U8).toArray 46 (0, 0)) ∧ w8.heap[S]? = some (.cells (st.list.map U64).toArray 66 (0, 0)) ∧ w8.heap[B]? = some (.cells (zrow8 64) 46 (0, 0))) := ⟨hU9.heap HR.out.1 (by simp), hU9.heap HR.out.2.1 (by simp), hU9.heap HR.out.2.2 (by simp)⟩
          have hUn : Upd [] w w8 := hU.trans hU9
          clear hTl hby hO HR hU hU9 hc
          go_wp2
          go_loopw [9] (fun i wi => ∃ q : Nat, q ≤ 8 ∧ i = .int .i64 q ∧ Upd [D] w8 wi ∧ Hid (wi.heap[D]? = some (.cells ((upTo H 64 (8 * j + q)).map U8).toArray 46 (0, 0)))) (fun i _ => 8 - (intOf i).toNat)
          case atStart => exact ⟨0, by omega, rfl, Upd.refl _ _, HR8.out.1⟩
          case round =>
            obtain ⟨q, hq, rfl, hUi, HDi⟩ := hrel
            by_cases hql : q < 8
            · obtain ⟨z, hz⟩ : ∃ z, Tl[q]'(by omega) = z := ⟨_, rfl⟩
              have hct0 : wr.cell? ⟨gt, q, none⟩ = some (U8 z) := by
                have := (HBY.out.upd hUi (by simp; omega)) q (by omega)
                rw [Nat.zero_add, hz] at this
                exact this
              have hHi : 8 * j + q < H.length := by omega
              have hHz : H[8 * j + q]'hHi = z := by
                have h1 := HGET.out j q hlt hql
                rw [HY.out, HTL.out, List.getD_eq_getElem?_getD, List.getElem?_eq_getElem (show q < Tl.length by omega), hz, List.getElem?_eq_getElem hHi] at h1
                simpa using h1
              have hup := upTo_length H 64 (8 * j + q) hHl (by omega)
              have hcell : ∃ z, wr.cell? ⟨D, 8 * j + q, none⟩ = some (U8 z) := by
                rw [cell_of_row _ _ _ _ _ _ HDi.out]
                have : 8 * j + q < (upTo H 64 (8 * j + q)).length := by rw [hup]; omega
                exact ⟨(upTo H 64 (8 * j + q))[8 * j + q], by simp [this]⟩
              obtain ⟨z', hcell⟩ := hcell
              have hfr : wr.frozen? ⟨D, 8 * j + q, none⟩ = false := frozen_of_row _ _ _ _ _ HDi.out
              have hset := heap_setCell_same wr D (8 * j + q) _ 46 (U8 z) HDi.out
              have hst := upTo_step H 64 (8 * j + q) hHl (by omega)
              rw [hHz] at hst
              rw [List.setIfInBounds_toArray, ← List.map_set, hst] at hset
              have HSET := Lib.hid hset
              have hUs : Upd [D] w8 (wr.setCell ⟨D, 8 * j + q, none⟩ (U8 z)) := hUi.setCell _ _ (fun _ => by simp)
              obtain ⟨x, hx⟩ : ∃ x, 8 * j + q = x := ⟨_, rfl⟩
              have hxi : 8 * (j : Int) + (q : Int) = (x : Int) := by omega
              have hx64 : (x : Int) < 64 := by omega
              rw [hx] at hcell hfr HSET hUs
              have HX := Lib.hid hx
              clear hz hHz hup hset hst hx
              go_wp2
              go_roundw
              case rel => exact ⟨q + 1, by omega, by go_num, hUs, by rw [← Nat.add_assoc, HX.out]; exact HSET⟩
              case measure => simp [intOf]; omega
            · obtain rfl : q = 8 := by omega
              have hUe : Upd [] w wr := hUn.trans' hUi (fun i hi hl => by simp at hi; have := HDW.out; omega)
              have hE : Hid (wr.heap[D]? = some (.cells ((upTo H 64 (8 * (j + 1))).map U8).toArray 46 (0, 0)) ∧ wr.heap[S]? = some (.cells (st.list.map U64).toArray 66 (0, 0)) ∧ wr.heap[B]? = some (.cells (zrow8 64) 46 (0, 0))) :=
                ⟨HDi.out, hUi.heap HR8.out.2.1 (by simp; omega), hUi.heap HR8.out.2.2 (by simp; omega)⟩
              go_wp2
              go_roundw
              case rel => exact ⟨j + 1, by omega, by go_num, hUe, hE⟩
              case measure => simp [intOf]; omega
        · obtain rfl : j = 8 := by omega
          obtain ⟨hDD, _, hBB⟩ := HR.out
          rw [show 8 * 8 = 64 from rfl, upTo_all H 64 hHl] at hDD
          have hs : (Tryd.prog.info? 46).map (·.size) = some ((H.map U8).toArray).size := by simp only [List.size_toArray, List.length_map, hHl]; exact size_w64b
          have ho : (zrow8 64).size = ((H.map U8).toArray).size := by simp only [List.size_toArray, List.length_map, hHl, zrow8_size]
          have hal : ((H.map U8).toArray).all (·.oneCell') = true := by simp
          go_wp2_with (first
            | (refine wpList_load_row rfl 46 _ rfl D rfl 46 _ (0, 0) _ hDD Tryd.underlying46 rfl hs ?_)
            | (refine wpList_store_row rfl 46 _ _ rfl B _ rfl rfl 46 _ hBB hs ho hal ?_))
          refine bodyPost_ret (v := .agg (H.map U8).toArray) (results_cell_row rfl _ _ B 46 _ (0, 0) _ rfl (setRow_heap wr B _ _ 46 (0, 0) hBB) Tryd.underlying46 rfl hs) rfl ⟨ret_eq ?_, hU.setRow _ _ (by have := HB.out; omega)⟩
          rw [HSUM'.out, HH.out]
end Go.Proofs.YtghdininkolanaaDoor
