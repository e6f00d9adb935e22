/-
  The document's Sum of sha256.
-/
import Derived.Test.YtaphbkkklapdaaaDoorDigSum256
import Derived.Test.YtaphbkkklapdaaaDoorRef02c
import Derived.Test.YtaphbkkklapdaaaDoorUpTo
import Derived.Deep.CutBlock
namespace Go.Proofs.YtaphbkkklapdaaaDoor
open Go Go.RowKit Go.Proofs
theorem flat32_get (l : List (BitVec 32)) : ∀ i, i < 4 * l.length → (l.flatMap tell32)[i]? = some ((l.getD (i / 4) 0 >>> (24 - 8 * (i % 4))).setWidth 8) := by
  induction l with
  | nil => intro i h; simp at h
  | cons x l ih =>
    intro i h
    rw [List.flatMap_cons]
    rcases Nat.lt_or_ge i 4 with h4 | h4
    · rw [List.getElem?_append_left (by rw [tell32_length]; exact h4), List.getElem?_eq_getElem (by rw [tell32_length]; exact h4), tell32_get x i h4, Nat.mod_eq_of_lt h4, Nat.div_eq_of_lt h4]
      rfl
    · rw [List.getElem?_append_right (by rw [tell32_length]; exact h4), tell32_length, ih (i - 4) (by simp at h; omega)]
      rw [show i / 4 = (i - 4) / 4 + 1 by omega, show i % 4 = (i - 4) % 4 by omega]
      rfl
theorem hash32_get (s : St 32) (i : Nat) (h : i < 32) : (hash32 s)[i]'(by rw [hash32_length]; exact h) = (s.list.getD (i / 4) 0 >>> (24 - 8 * (i % 4))).setWidth 8 := by
  have := flat32_get s.list i (by simpa [St.list] using h)
  rw [← hash32, List.getElem?_eq_getElem (by rw [hash32_length]; exact h)] at this
  exact Option.some.inj this
theorem size_b32 : (Tryd.prog.info? 22).map (·.size) = some 32 := by kernel_rfl
@[go_sem] theorem zero_b32 (w : World) : (zeroValue 22).run Tryd.prog w = .ok (.agg (zrow8 32)) w := by kernel_rfl
@[go_sem] theorem zero_b64 (w : World) : (zeroValue 55).run Tryd.prog w = .ok (.agg (zrow8 64)) w := by kernel_rfl
set_option maxRecDepth 100000 in
set_option maxHeartbeats 1600000 in
theorem reffirst256 (w : World) : Calls Tryd.prog 30 #[] w fun e w' => e = .returned (.agg (first256.list.map U32).toArray) ∧ Upd [] w w' := by
  have hall : ((first256.list.map U32).toArray).all (·.oneCell') = true := by simp
  have HA := Lib.hid hall
  clear hall
  go_enter Tryd.func30, Tryd.ntmps30
  go_wp2_with (first | (refine wpList_build_eq rfl 54 _ rfl (first256.list.map U32).toArray (by kernel_rfl) ?_) | (refine wpList_store_row rfl 54 _ _ rfl w.heap.size (first256.list.map U32).toArray rfl rfl 54 (zrow32 8) (hget_new rfl) size_s32 rfl HA.out ?_))
  refine bodyPost_ret (v := .agg (first256.list.map U32).toArray) ?hr rfl ?hR
  case hr =>
    refine results_cell_row rfl _ _ w.heap.size 54 (first256.list.map U32).toArray (0, 0) _ rfl ?_ Tryd.underlying54 rfl size_s32
    exact setRow_heap _ _ _ _ 54 (0, 0) (hget_new rfl)
  case hR => exact ⟨rfl, ((Upd.refl [] w).alloc _).setRow _ _ (by omega)⟩
set_option maxRecDepth 100000 in
set_option maxHeartbeats 1600000 in
theorem bytesof256 (w : World) (s : St 32) : Calls Tryd.prog 32 #[.agg (s.list.map U32).toArray] w fun e w' => e = .returned (.agg ((hash32 s).map U8).toArray) ∧ Upd [] w w' := by
  obtain ⟨H, hH⟩ : ∃ H, hash32 s = H := ⟨_, rfl⟩
  have hHl : H.length = 32 := by rw [← hH]; exact hash32_length s
  have hget : ∀ i (h : i < 32), H[i]'(by omega) = (s.list.getD (i / 4) 0 >>> (24 - 8 * (i % 4))).setWidth 8 := by subst hH; exact hash32_get s
  rw [hH]
  have HGET := Lib.hid hget
  clear hH hget
  go_enter Tryd.func32, Tryd.ntmps32
  go_wp2
  obtain ⟨B, hB⟩ : ∃ B, w.heap.size = B := ⟨_, rfl⟩
  generalize hw1 : World.alloc (World.alloc (World.alloc w _) _) _ = w1
  have hU1 : Upd [] w w1 := by rw [← hw1]; exact (((Upd.refl _ w).alloc _).alloc _).alloc _
  have h0 : w1.heap[B]? = some (.cells (s.list.map U32).toArray 54 (0, 0)) := by rw [← hw1]; exact hget_old (hget_old (hget_new hB.symm))
  have h1 : w1.heap[B + 1]? = some (.cells (zrow8 32) 22 (0, 0)) := by rw [← hw1]; exact hget_old (hget_new (by simp [hB]))
  have h2 : w1.heap[B + 1 + 1]? = some (.cells ((upTo H 32 0).map U8).toArray 22 (0, 0)) := by rw [← hw1]; exact hget_new (by simp [hB])
  rw [hB]
  have HB := Lib.hid hB
  clear hw1 hB
  go_loopw [4] (fun i wr => ∃ k : Nat, k ≤ 32 ∧ i = .int .i64 k ∧ Upd [] w wr ∧ wr.heap[B]? = some (.cells (s.list.map U32).toArray 54 (0, 0)) ∧ wr.heap[B + 1]? = some (.cells (zrow8 32) 22 (0, 0)) ∧ wr.heap[B + 1 + 1]? = some (.cells ((upTo H 32 k).map U8).toArray 22 (0, 0))) (fun i _ => 32 - (intOf i).toNat)
  case atStart => exact ⟨0, by omega, rfl, hU1, h0, h1, h2⟩
  case round =>
    obtain ⟨k, hk, rfl, hU, h0, h1, h2⟩ := hrel
    by_cases hlt : k < 32
    · have hkH : k < H.length := by rw [hHl]; exact hlt
      obtain ⟨q, hq⟩ : ∃ q, k / 4 = q := ⟨_, rfl⟩
      obtain ⟨r, hr⟩ : ∃ r, k % 4 = r := ⟨_, rfl⟩
      have hqi : (k : Int) / 4 = (q : Int) := by omega
      have hri : (k : Int) % 4 = (r : Int) := by omega
      have hq8 : q < 8 := by omega
      have hq8i : (q : Int) < 8 := by omega
      have hr4 : r < 4 := by omega
      have hr4i : (r : Int) < 4 := by omega
      have hsh : (8 * (r : Int)) ≤ 24 := by omega
      have hsh0 : 0 ≤ 24 - (8 * (r : Int)) := by omega
      have hsh2 : (24 - (8 * (r : Int))).toNat = 24 - 8 * r := by omega
      obtain ⟨y, hy⟩ : ∃ y, s.list.getD q 0 = y := ⟨_, rfl⟩
      have hc : wr.cell? ⟨B, q, none⟩ = some (U32 y) := by rw [cell_of_row _ _ q _ _ _ h0, st_get U32 s q hq8, hy]
      have hcell : ∃ z, wr.cell? ⟨B + 1 + 1, k, none⟩ = some (U8 z) := by
        rw [cell_of_row _ _ k _ _ _ h2]
        have : k < (upTo H 32 k).length := by rw [upTo_length H 32 k hHl hk]; exact hlt
        exact ⟨(upTo H 32 k)[k], by simp [this]⟩
      obtain ⟨z, hcell⟩ := hcell
      have hfr : wr.frozen? ⟨B + 1 + 1, k, none⟩ = false := frozen_of_row _ _ k _ _ h2
      have hset := heap_setCell_same wr (B + 1 + 1) k _ 22 (U8 (H[k]'hkH)) h2
      rw [List.setIfInBounds_toArray, ← List.map_set, upTo_step H 32 k hHl hlt] at hset
      have hHk := HGET.out k hlt
      rw [hq, hr, hy] at hHk
      have HHK := Lib.hid hHk
      have HSET := Lib.hid hset
      have H0 := Lib.hid h0
      have H1 := Lib.hid h1
      have hki : (k : Int) < 32 := by omega
      clear hq hr hy hset hHk h0 h1 h2
      rw [HHK.out] at HSET
      go_wp2
      go_roundw
      case rel =>
        refine ⟨k + 1, by omega, by go_num, hU.setCell _ _ (by have := HB.out; simp; omega), ?_, ?_, HSET.out⟩
        · rw [heap_setCell_other _ _ _ _ (by simp; omega)]; exact H0.out
        · rw [heap_setCell_other _ _ _ _ (by simp)]; exact H1.out
      case measure => simp [intOf]; omega
    · obtain rfl : k = 32 := by omega
      rw [upTo_all H 32 hHl] at h2
      have hs : (Tryd.prog.info? 22).map (·.size) = some ((H.map U8).toArray).size := by simp only [List.size_toArray, List.length_map, hHl]; exact size_b32
      have ho : (zrow8 32).size = ((H.map U8).toArray).size := by simp only [List.size_toArray, List.length_map, hHl, zrow8_size]
      have ha : ((H.map U8).toArray).all (·.oneCell') = true := by simp
      go_wp2_with (first | (refine wpList_load_row rfl 22 _ rfl (B + 1 + 1) rfl 22 _ (0, 0) _ h2 Tryd.underlying22 rfl hs ?_) | (refine wpList_store_row rfl 22 _ _ rfl (B + 1) _ rfl rfl 22 _ h1 hs ho ha ?_))
      refine bodyPost_ret (v := .agg (H.map U8).toArray) (results_cell_row rfl _ _ (B + 1) 22 _ (0, 0) _ rfl (setRow_heap wr (B + 1) _ _ 22 (0, 0) h1) Tryd.underlying22 rfl hs) rfl ⟨rfl, hU.setRow _ _ (by have := HB.out; omega)⟩
set_option maxRecDepth 100000 in
set_option maxHeartbeats 3200000 in
theorem refsum256 (w : World) (v : Value) (m : List (BitVec 8)) (hv : RdB w v m) (hm : m.length ≤ 140737488355232) :
    Calls Tryd.prog 25 #[v] w fun e w' => e = .returned (.agg ((sha256 m).map U8).toArray) ∧ Upd [] w w' := by
  obtain ⟨A, cap, rfl, hcap1, hcap2⟩ := hv.isSlice
  obtain ⟨p, hp⟩ : ∃ p, pad256 (BitVec.ofNat 64 m.length) = p := ⟨_, rfl⟩
  have hpl : 9 ≤ p.length ∧ p.length ≤ 72 := by rw [← hp, pad256_length]; have := noughts256_lt (BitVec.ofNat 64 m.length); omega
  have hblk : ∃ n, (m ++ p).length = 64 * n := by
    refine ⟨(m ++ p).length / 64, ?_⟩
    rw [List.length_append, ← hp, pad256_length]
    unfold noughts256
    have e : (BitVec.ofNat 64 m.length).toNat = m.length := by rw [BitVec.toNat_ofNat]; exact Nat.mod_eq_of_lt (by omega)
    rw [e]
    omega
  have hpads := fun w => refpad256 w (BitVec.ofNat 64 m.length)
  rw [hp] at hpads
  have HPADS := Lib.hid hpads
  have HP := Lib.hid hp
  have HV := Lib.hid hv
  have HBLK := Lib.hid hblk
  clear hp hpads hv hblk
  go_enter Tryd.func25, Tryd.ntmps25
  go_upto_region 1 with (fail)
  obtain ⟨B, hB⟩ : ∃ B, w.heap.size = B := ⟨_, rfl⟩
  generalize hw1 : World.alloc w _ = w1
  have hU1 : Upd [] w w1 := by rw [← hw1]; exact (Upd.refl _ w).alloc _
  have h1 : w1.heap[B]? = some (.cells (zrow8 32) 22 (0, 0)) := by rw [← hw1]; exact hget_new hB.symm
  have hs1 : w1.heap.size = B + 1 := by rw [← hw1]; simp [hB]
  rw [hB]
  have HB := Lib.hid hB
  have HS1 := Lib.hid hs1
  have HB1 := Lib.hid h1
  clear hB hs1 h1 hw1
  go_upto_region 4 with (first
    | (at_builtin; refine append_rd rfl _ _ rfl (B + 1) (.slice none 0 0) [] (by rfl) (OwnB.nil _ _) _ m (by rfl) (HV.out.upd0 hU1) (by simp; omega) (by have := HS1.out; omega) ?_; intro v2 w2 hO2 _ hU2 hG2; simp only [List.nil_append] at hO2 hG2)
    | (go_at_call 29; refine (HPADS.out _).mono ?_; rintro e w3 ⟨v3, rfl, hO3, hU3⟩)
    | (at_builtin; refine append_rd rfl _ _ rfl (B + 1) v2 m (by rfl) (hO2.upd0 hU3) v3 p (by rfl) hO3.rd (by omega) (by have := HS1.out; have := hU2.size; have := hU3.size; omega) ?_; intro v4 w4 hO4 _ hU4 hG4))
  have hU5 : Upd [] w w4 := by
    have h2 : Upd [] w w2 := hU1.trans' hU2 (fun i hi _ => by simp [Value.ownBlock] at hi)
    exact (h2.trans hU3).row hU4 (fun g hg => by have := (hO2.lt g hg).1; have := HB.out; omega)
  have h4B : w4.heap[B]? = some (.cells (zrow8 32) 22 (0, 0)) := by
    have h2 := hU2.heap HB1.out (by simp [Value.ownBlock])
    exact hU4.heap (hU3.heap h2 (by simp)) (fun h => by have := (hO2.lt B (by simpa using h)).1; omega)
  obtain ⟨L, hL⟩ : ∃ L, m ++ p = L := ⟨_, rfl⟩
  obtain ⟨n, hn⟩ := HBLK.out
  rw [hL] at hn hO4 hG4
  have hLlen : 9 ≤ L.length ∧ L.length ≤ 140737488355328 := by rw [← hL, List.length_append]; omega
  obtain ⟨g, c4, rfl, hgB, hgl, hc4, hc4'⟩ := hO4.at (by omega)
  have hsum : sha256 m = hash32 (led block256 64 first256 L n) := by
    rw [sha256, padded256, HP.out, hL, hn, Nat.mul_div_cancel_left n (by omega)]
  have hfirst := fun w => reffirst256 w
  have HSUM := Lib.hid hsum
  have HN := Lib.hid hn
  have HO4 := Lib.hid hO4
  have HFIRST := Lib.hid hfirst
  have H4B := Lib.hid h4B
  have HLL := Lib.hid hLlen
  clear hsum hn hO4 hO2 hO3 hU1 hU2 hU3 hU4 hG2 hG4 hfirst HB1 HPADS HV HBLK HP h4B hL hpl
  go_upto_region 5 with (first
    | (go_at_call 30; refine (HFIRST.out _).mono ?_; rintro e w5 ⟨rfl, hU6⟩)
    | (refine wpList_store_row rfl 54 _ _ rfl _ (first256.list.map U32).toArray rfl rfl 54 _ (hget_new rfl) size_s32 rfl (by simp) ?_))
  go_simp
  obtain ⟨S, hS⟩ : ∃ S, w5.heap.size = S := ⟨_, rfl⟩
  have hSB : w.heap.size ≤ S ∧ B + 1 ≤ S ∧ g < S := by have := hU5.size; have := hU6.size; have := HB.out; omega
  generalize hw6 : World.setRow (World.alloc w5 _) _ _ = w6
  have hU7 : Upd [] w w6 := by rw [← hw6]; exact ((hU5.trans hU6).alloc _).setRow _ _ (by omega)
  have h6 : w6.heap[S]? = some (.cells (first256.list.map U32).toArray 54 (0, 0)) := by rw [← hw6, hS]; exact setRow_heap _ _ _ _ 54 (0, 0) (hget_new hS.symm)
  have h6B : w6.heap[B]? = some (.cells (zrow8 32) 22 (0, 0)) := by rw [← hw6, setRow_other _ _ _ _ (by omega)]; exact hget_old (hU6.heap H4B.out (by simp))
  have h6L : OwnB w6 (B + 1) (.slice (some ⟨g, 0, none⟩) L.length c4) L := by rw [← hw6]; exact ((HO4.out.upd0 hU6).alloc _).upd ((Upd.refl [w5.heap.size] _).setRow _ _ (by simp)) (by simp [Value.ownBlock]; omega)
  rw [hS]
  have H6 := Lib.hid h6
  have H6B := Lib.hid h6B
  have H6L := Lib.hid h6L
  obtain ⟨N, hN⟩ : ∃ N, L.length = N := ⟨_, rfl⟩
  rw [hN] at H6L HN hLlen hc4 ⊢
  have HNN := Lib.hid hN
  clear hw6 hS h6 h6B h6L HO4 H4B hU5 hU6 hN HLL hgl
  go_wp2
  go_loopw [5] (fun i wr => ∃ k a : Nat, a = 64 * k ∧ k ≤ n ∧ i = .int .i64 a ∧ Upd [] w wr ∧ Hid (wr.heap[S]? = some (.cells ((led block256 64 first256 L k).list.map U32).toArray 54 (0, 0)) ∧ wr.heap[B]? = some (.cells (zrow8 32) 22 (0, 0)) ∧ OwnB wr (B + 1) (.slice (some ⟨g, 0, none⟩) N c4) L)) (fun i _ => N - (intOf i).toNat)
  case atStart => exact ⟨0, 0, rfl, by omega, rfl, hU7, ⟨H6.out, H6B.out, H6L.out⟩⟩
  case round =>
    obtain ⟨k, a, ha, hk, rfl, hU, HR⟩ := hrel
    by_cases hlt : k < n
    · have hbl : a + 64 ≤ N ∧ a < N := by have := HN.out; omega
      have hai : (a : Int) < (N : Int) := by omega
      have haN : (a : Int) + 64 ≤ 140737488355328 := by omega
      have HA := Lib.hid ha
      clear ha
      obtain ⟨wo, rfl⟩ : ∃ wo : World, wo = wr := ⟨_, rfl⟩
      obtain ⟨D, hD⟩ : ∃ D, wo.heap.size = D := ⟨_, rfl⟩
      obtain ⟨blk, hblk⟩ : ∃ blk, (L.drop a).take 64 = blk := ⟨_, rfl⟩
      have hbl64 : blk.length = 64 := by rw [← hblk]; simp; have := HNN.out; omega
      have hget : ∀ j (h : j < 64), ∃ y, L[a + j]? = some y ∧ blk[j]? = some y := by
        intro j hj
        have h1 : a + j < L.length := by have := HNN.out; omega
        refine ⟨L[a + j], List.getElem?_eq_getElem h1, ?_⟩
        rw [← hblk, List.getElem?_take_of_lt hj, List.getElem?_drop, List.getElem?_eq_getElem h1]
      have HGET := Lib.hid hget
      have HBLK := Lib.hid hblk
      have HD := Lib.hid hD
      clear hget hblk
      go_upto_block 2 with (fail)
      generalize hw7 : World.alloc wo _ = w7
      have hU8 : Upd [] wo w7 := by rw [← hw7]; exact (Upd.refl _ wo).alloc _
      have h7 : w7.heap[D]? = some (.cells ((upTo blk 64 0).map U8).toArray 55 (0, 0)) := by rw [← hw7]; exact hget_new hD.symm
      have H7 := Lib.hid h7
      clear hw7 hD h7
      go_wp2
      go_loopw [7] (fun i wr => ∃ j : Nat, j ≤ 64 ∧ i = .int .i64 j ∧ Upd [] wo wr ∧ Hid (wr.heap[D]? = some (.cells ((upTo blk 64 j).map U8).toArray 55 (0, 0)))) (fun i _ => 64 - (intOf i).toNat)
      case atStart => exact ⟨0, by omega, rfl, hU8, H7⟩
      case round =>
        obtain ⟨j, hj, rfl, hUi, HD7⟩ := hrel
        by_cases hjl : j < 64
        · obtain ⟨y, hy1, hy2⟩ := HGET.out j hjl
          have hOL := (HR.out.2.2).upd0 hUi
          have haj : a + j < L.length := by have := HNN.out; omega
          have hc : wr.cell? ⟨g, a + j, none⟩ = some (U8 y) := by
            have := OwnB.cell (n := N) hOL (a + j) haj
            rw [this]
            rw [List.getElem?_eq_getElem haj] at hy1
            rw [Option.some.inj hy1]
          have hup := upTo_length blk 64 j hbl64 hj
          have hcell : ∃ z, wr.cell? ⟨D, j, none⟩ = some (U8 z) := by
            rw [cell_of_row _ _ j _ _ _ HD7.out]
            have : j < (upTo blk 64 j).length := by rw [hup]; exact hjl
            exact ⟨(upTo blk 64 j)[j], by simp [this]⟩
          obtain ⟨z, hcell⟩ := hcell
          have hfr : wr.frozen? ⟨D, j, none⟩ = false := frozen_of_row _ _ j _ _ HD7.out
          have hset := heap_setCell_same wr D j _ 55 (U8 y) HD7.out
          have hjb : j < blk.length := by omega
          have hyb : blk[j]'hjb = y := by rw [List.getElem?_eq_getElem hjb] at hy2; exact Option.some.inj hy2
          have hst := upTo_step blk 64 j hbl64 hjl
          rw [hyb] at hst
          rw [List.setIfInBounds_toArray, ← List.map_set, hst] at hset
          have HSET := Lib.hid hset
          have haji : (a : Int) + (j : Int) < (N : Int) := by omega
          have hji : (j : Int) < 64 := by omega
          have hUs : Upd [] wo (wr.setCell ⟨D, j, none⟩ (U8 y)) := hUi.setCell _ _ (by have := HD.out; simp; omega)
          clear hset hst hyb hy1 hy2 hOL hup
          go_wp2
          go_roundw
          case rel => exact ⟨j + 1, by omega, by go_num, hUs, HSET⟩
          case measure => simp [intOf]; omega
        · obtain rfl : j = 64 := by omega
          have hD7 := HD7.out
          rw [upTo_all blk 64 hbl64] at hD7
          have hRS := hUi.heap HR.out.1 (by simp)
          obtain ⟨st, hst⟩ : ∃ st, led block256 64 first256 L k = st := ⟨_, rfl⟩
          rw [hst] at hRS
          have hs64 : (Tryd.prog.info? 55).map (·.size) = some ((blk.map U8).toArray).size := by simp only [List.size_toArray, List.length_map, hbl64]; exact size_b64
          have hblock := fun w => refblock256 w st blk hbl64
          obtain ⟨st2, hst2⟩ : ∃ st2, block256 st blk = st2 := ⟨_, rfl⟩
          rw [hst2] at hblock
          have HST := Lib.hid hst
          have HST2 := Lib.hid hst2
          have HBL := Lib.hid hblock
          clear hst hst2 hblock
          go_wp2_with (first
            | (refine wpList_load_row rfl 54 _ rfl S rfl 54 _ (0, 0) _ hRS Tryd.underlying54 rfl size_s32 ?_)
            | (refine wpList_load_row rfl 55 _ rfl D rfl 55 _ (0, 0) _ hD7 Tryd.underlying55 rfl hs64 ?_)
            | (go_at_call 31; refine (HBL.out _).mono ?_; rintro e w8 ⟨rfl, hU9⟩)
            | (refine wpList_store_row rfl 54 _ _ rfl S (st2.list.map U32).toArray rfl rfl 54 _ (hU9.heap hRS (by simp)) size_s32 rfl (by simp) ?_))
          go_simp
          go_wp2
          have hL2 : OwnB (w8.setRow S (st2.list.map U32).toArray) (B + 1) (.slice (some ⟨g, 0, none⟩) N c4) L :=
            (((HR.out.2.2).upd0 hUi).upd0 hU9).upd ((Upd.refl [S] w8).setRow S _ (by simp)) (by simp [Value.ownBlock]; omega)
          refine ⟨⟨k + 1, ?_, ?_, ?_, ?_⟩, ?_⟩
          · have h2 := HA.out; clear HA HN HD; omega
          · have h2 := HA.out; clear HA HN HD; omega
          · exact ((hU.trans hUi).trans hU9).setRow _ _ (by omega)
          · refine ⟨?_, ?_, hL2⟩
            · rw [setRow_heap w8 S _ _ 54 (0, 0) (hU9.heap hRS (by simp)), led, ← HA.out, HBLK.out, HST.out, HST2.out]
            · rw [setRow_other _ _ _ _ (by omega)]; exact hU9.heap (hUi.heap HR.out.2.1 (by simp)) (by simp)
          · simp [intOf]; omega
    · obtain rfl : k = n := by omega
      obtain rfl : a = N := by have := HN.out; omega
      obtain ⟨hRS, hRB, _⟩ := HR.out
      obtain ⟨st, hst⟩ : ∃ st, led block256 64 first256 L k = st := ⟨_, rfl⟩
      rw [hst] at hRS
      have HSUM' : Hid (sha256 m = hash32 st) := by rw [HSUM.out, hst]; rfl
      obtain ⟨H, hH⟩ : ∃ H, hash32 st = H := ⟨_, rfl⟩
      have hHl : H.length = 32 := by rw [← hH]; exact hash32_length st
      have hby := fun w => bytesof256 w st
      rw [hH] at hby
      have HBY := Lib.hid hby
      have HH := Lib.hid hH
      have HHR := Lib.hid hRB
      have hs : (Tryd.prog.info? 22).map (·.size) = some ((H.map U8).toArray).size := by simp only [List.size_toArray, List.length_map, hHl]; exact size_b32
      have ho : (zrow8 32).size = ((H.map U8).toArray).size := by simp only [List.size_toArray, List.length_map, hHl, zrow8_size]
      have hal : ((H.map U8).toArray).all (·.oneCell') = true := by simp
      clear hst hH hby hRB ha
      go_wp2_with (first
        | (refine wpList_load_row rfl 54 _ rfl S rfl 54 _ (0, 0) _ hRS Tryd.underlying54 rfl size_s32 ?_)
        | (go_at_call 32; refine (HBY.out _).mono ?_; rintro e w8 ⟨rfl, hU9⟩)
        | (refine wpList_store_row rfl 22 _ _ rfl B _ rfl rfl 22 _ (hU9.heap HHR.out (by simp)) hs ho hal ?_))
      refine bodyPost_ret (v := .agg (H.map U8).toArray) (results_cell_row rfl _ _ B 22 _ (0, 0) _ rfl (setRow_heap w8 B _ _ 22 (0, 0) (hU9.heap HHR.out (by simp))) Tryd.underlying22 rfl hs) rfl ⟨ret_eq ?_, (hU.trans hU9).setRow _ _ (by have := HB.out; omega)⟩
      rw [HSUM'.out, HH.out]
end Go.Proofs.YtaphbkkklapdaaaDoor
