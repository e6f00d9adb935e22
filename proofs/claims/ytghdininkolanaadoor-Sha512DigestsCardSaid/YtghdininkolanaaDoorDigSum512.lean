/-
  Sum of a sha512.Digest, and Sum of a message.
-/
import Derived.Test.YtghdininkolanaaDoorDigWrite512
import Derived.Test.YtghdininkolanaaDoorStore64
import Derived.Test.YtghdininkolanaaDoorPad512
import Derived.Deep.RegionHeld3
import Derived.Deep.DrawnRows
import Derived.IntWalk
namespace Go.Proofs.YtghdininkolanaaDoor
open Go Go.RowKit Go.Proofs
def hash64 (s : St 64) : List (BitVec 8) := s.list.flatMap tell64
def padded512 (m : List (BitVec 8)) : List (BitVec 8) := m ++ pad512 (BitVec.ofNat 64 m.length)
/-- the hash of a message -/
def sha512 (m : List (BitVec 8)) : List (BitVec 8) := hash64 (led block512 128 first512 (padded512 m) ((padded512 m).length / 128))
/-- what stands in the answer behind k words -/
def told64 (s : St 64) (k : Nat) : List (BitVec 8) := (s.list.take k).flatMap tell64 ++ List.replicate (64 - 8 * k) 0
theorem flat64_length (l : List (BitVec 64)) : (l.flatMap tell64).length = 8 * l.length := by
  induction l with
  | nil => rfl
  | cons x l ih => simp only [List.flatMap_cons, List.length_append, ih, tell64_length, List.length_cons]; omega
attribute [local go_sem ↓] Go.wp_at_zero Go.wp_at_succ
theorem hash64_length (s : St 64) : (hash64 s).length = 64 := flat64_length _
theorem sha512_length (m : List (BitVec 8)) : (sha512 m).length = 64 := hash64_length _
theorem told64_length (s : St 64) (k : Nat) (h : k ≤ 8) : (told64 s k).length = 64 := by
  have : s.list.length = 8 := rfl
  simp only [told64, List.length_append, flat64_length, List.length_take, List.length_replicate]; omega
theorem told64_step (s : St 64) (k : Nat) (h : k < 8) : splice (told64 s k) (8 * k) (tell64 (s.list.getD k 0)) = told64 s (k + 1) := by
  have h8 : s.list.length = 8 := rfl
  have hl : ((s.list.take k).flatMap tell64).length = 8 * k := by rw [flat64_length, List.length_take]; omega
  unfold splice told64
  rw [List.take_left' hl, tell64_length, List.drop_append, hl, List.drop_eq_nil_of_le (by omega), List.nil_append, List.drop_replicate,
    List.take_succ_eq_append_getElem (by omega), List.flatMap_append, List.append_assoc]
  congr 1
  have : s.list.getD k 0 = s.list[k]'(by omega) := by rw [List.getD_eq_getElem?_getD, List.getElem?_eq_getElem (by omega)]; rfl
  rw [this]
  simp
  omega
theorem told64_all (s : St 64) : told64 s 8 = hash64 s := by simp [told64, hash64, St.list]
theorem size_w64b : (Tryd.prog.info? 46).map (·.size) = some 64 := by kernel_rfl
@[go_sem] theorem zero_w64b (w : World) : (zeroValue 46).run Tryd.prog w = .ok (.agg (zrow8 64)) w := by kernel_rfl
theorem Gl512.lt' {w : World} (h : Gl512 w) : 5 < w.heap.size := by obtain ⟨_, _, h⟩ := h; exact lt_of_heap h
theorem cloneof512 (w : World) (b : Nat) (m : List (BitVec 8)) (h : DigOf512 w b m) : Calls Tryd.prog 14 #[.pointer (some ⟨b, 0, none⟩)] w fun e w' => e = .returned (.pointer (some ⟨w.heap.size, 0, none⟩)) ∧ DigOf512 w' w.heap.size m ∧ Upd [] w w' := by
  obtain ⟨s, r, h1, h2⟩ := h
  exact (clone512 w b s r _ _ h1).mono fun e w' ⟨he, hd, hu⟩ => ⟨he, ⟨s, r, hd, h2⟩, hu⟩
theorem resetof512 (w : World) (b : Nat) (m : List (BitVec 8)) (h : DigOf512 w b m) (hg : GlFirst512 w) : Calls Tryd.prog 15 #[.pointer (some ⟨b, 0, none⟩)] w fun e w' => (∃ v, e = .returned v) ∧ DigOf512 w' b [] ∧ Upd [b] w w' := by
  obtain ⟨s, r, h1, h2⟩ := h
  exact (reset512 w b s r _ _ h1 hg).mono fun e w' ⟨he, hd, hu⟩ => ⟨he, ⟨_, _, hd, Held.start _ _ _ _ (by simp)⟩, hu⟩
theorem lenof512 (w : World) (b : Nat) (m : List (BitVec 8)) (h : DigOf512 w b m) : Calls Tryd.prog 13 #[.pointer (some ⟨b, 0, none⟩)] w fun e w' => e = .returned (U64 (BitVec.ofNat 64 m.length)) ∧ w = w' := by
  obtain ⟨s, r, h1, _⟩ := h
  exact len512 w b s r _ _ h1
theorem newof512 (w : World) (hg : GlFirst512 w) : Calls Tryd.prog 26 #[] w fun e w' => e = .returned (.pointer (some ⟨w.heap.size, 0, none⟩)) ∧ DigOf512 w' w.heap.size [] ∧ Upd [] w w' :=
  (new512 w hg).mono fun e w' ⟨he, hd, hu⟩ => ⟨he, ⟨_, _, hd, Held.start _ _ _ _ (by simp)⟩, hu⟩
set_option maxRecDepth 100000 in
set_option maxHeartbeats 3200000 in
theorem digsum512 (w : World) (b : Nat) (m : List (BitVec 8)) (hd : DigOf512 w b m) (hg : Gl512 w) :
    Calls Tryd.prog 11 #[.pointer (some ⟨b, 0, none⟩)] w fun e w' => e = .returned (.agg ((sha512 m).map U8).toArray) ∧ Upd [] w w' := by
  obtain ⟨x, hx⟩ : ∃ x, BitVec.ofNat 64 m.length = x := ⟨_, rfl⟩
  have hlt : b < w.heap.size := by obtain ⟨_, _, ⟨_, h⟩, _⟩ := hd; exact lt_of_heap h
  have hc137 : w.cell? ⟨b, 137, none⟩ = some (U64 x) := by
    obtain ⟨_, _, ⟨hr, h⟩, _⟩ := hd
    rw [hx] at h
    exact (dig512_cells hr h).2
  have hg_lt : 5 < w.heap.size := by obtain ⟨_, _, h⟩ := hg; exact lt_of_heap h
  obtain ⟨B, hB⟩ : ∃ B, w.heap.size = B := ⟨_, rfl⟩
  have HX := Lib.hid hx
  have HD := Lib.hid hd
  have HG := Lib.hid hg
  have HB := Lib.hid hB
  rw [hB] at hlt hg_lt
  clear hx hd hg
  go_enter Tryd.func11, Tryd.ntmps11
  go_upto_region 1 with (fail)
  generalize hw1 : World.alloc w _ = w1
  have hU1 : Upd [] w w1 := by rw [← hw1]; exact (Upd.refl _ w).alloc _
  have h0 : w1.heap[B]? = some (.cells (zrow8 64) 46 (0, 0)) := by rw [← hw1]; exact hget_new hB.symm
  have hsz1 : w1.heap.size = B + 1 := by rw [← hw1]; simp [hB]
  have HSZ1 := Lib.hid hsz1
  clear hw1 hB hsz1
  go_wp2_with fail
  refine (cloneof512 _ b m (HD.out.upd hU1 (by simp))).mono ?_
  rintro e1 w1' ⟨rfl, hD1, hU1'⟩
  rw [HSZ1.out] at hD1 ⊢
  have h0' := hU1'.heap h0 (by simp)
  have hc137' := hU1'.cell (hU1.cell hc137 (by simp)) (by simp)
  have HD1 := Lib.hid hD1
  have HG1 := Lib.hid (HG.out.upd (hU1.trans hU1') (by simp))
  have hsz2 : B + 2 ≤ w1'.heap.size := by obtain ⟨_, _, ⟨_, h⟩, _⟩ := hD1; have := lt_of_heap h; omega
  clear hD1 h0 hc137
  go_upto_region 3 with (first | (go_at_call 30; refine (padof512 _ x).mono ?_; rintro e w2 ⟨v, rfl, hO, hU2⟩) | (go_at_call 28; refine (write512 _ _ v m (pad512 x) (HD1.out.upd hU2 (by simp)) hO.rd (by intro _ h; have := (hO.lt _ h).1; omega) (by rw [pad512_length]; have := noughts512_lt x; omega) (HG1.out.upd hU2 (by simp)) (by omega)).mono ?_; rintro e w3 ⟨⟨y, rfl⟩, hD3, hU3⟩))
  have hU4 : Upd [] w w3 := ((hU1.trans hU1').trans hU2).trans' hU3 (fun i hi hlt => by simp at hi; have := HB.out; omega)
  have h03 := hU3.heap (hU2.heap h0' (by simp)) (by simp)
  obtain ⟨s2, r2, ⟨hr2, hh2⟩, hheld2⟩ := hD3
  obtain ⟨C, hC⟩ : ∃ C, w3.heap.size = C := ⟨_, rfl⟩
  have hBC : B + 2 ≤ C := by have := hU2.size; have := hU3.size; omega
  have hra : (w3.alloc (.cells (zrow8 64) 46)).rangeAt (B + 1) 0 (s2.list.map U64) := range_of_row (hget_old hh2) 0 _ ⟨[], r2.map U8 ++ [.int .i64 (((m ++ pad512 x).length % 128 : Nat) : Int), U64 (BitVec.ofNat 64 (m ++ pad512 x).length)], by simp, rfl⟩
  have hs2 : s2 = led block512 128 first512 (padded512 m) ((padded512 m).length / 128) := by
    rw [padded512, HX.out]; exact hheld2.state
  have HS2 := Lib.hid hs2
  have HRA := Lib.hid hra
  have HC3 := Lib.hid hC
  clear hs2 hra hheld2 HD1 hO hU1 hU1' hU2 hU3 h0' HD HG hg_lt HG1 hC
  go_wp2_with (first | (refine wpList_load_mid rfl 66 _ rfl (B + 1) 0 rfl _ _ HRA.out Tryd.underlying66 rfl size_s64 ?_))
  rw [HC3.out]
  generalize hw4 : World.alloc w3 _ = w4
  have hU5 : Upd [] w w4 := by rw [← hw4]; exact hU4.alloc _
  have e0 : ((told64 s2 0).map U8).toArray = zrow8 64 := rfl
  have h4 : w4.heap[C]? = some (.cells ((told64 s2 0).map U8).toArray 46 (0, 0)) := by rw [← hw4, e0]; exact hget_new HC3.out.symm
  have h4B : w4.heap[B]? = some (.cells (zrow8 64) 46 (0, 0)) := by rw [← hw4]; exact hget_old h03
  clear hw4 h03 hh2 HRA HC3 hU4 e0 hc137'
  go_loopw [20] (fun i wr => ∃ k : Nat, k ≤ 8 ∧ i = .int .i64 k ∧ Upd [] w wr ∧ wr.heap[C]? = some (.cells ((told64 s2 k).map U8).toArray 46 (0, 0)) ∧ wr.heap[B]? = some (.cells (zrow8 64) 46 (0, 0))) (fun i _ => 8 - (intOf i).toNat)
  case atStart => exact ⟨0, by omega, rfl, hU5, h4, h4B⟩
  case round =>
    obtain ⟨k, hk, rfl, hU, hC, hB0⟩ := hrel
    by_cases hlt : k < 8
    · obtain ⟨q, hq⟩ : ∃ q, s2.list.getD k 0 = q := ⟨_, rfl⟩
      have hidx := run_index_row (P := Tryd.prog) (T := 66) k Tryd.underlying66 Tryd.underlying49 rfl size_u64 hlt (st_get U64 s2 k hlt)
      rw [hq] at hidx
      have HQ := Lib.hid hq
      have HCC := Lib.hid hC
      have HB0 := Lib.hid hB0
      clear hq hC hB0
      go_wp2
      have hki : (k : Int) < 8 := by omega
      have e1 : IntKind.i64.wrap (8 * (k : Int)) = 8 * (k : Int) := IntWalk.i64_in _ (by omega)
      have e2 : (0 : Int) ≤ 8 * (k : Int) := by omega
      have e3 : (8 * (k : Int)).toNat = 8 * k := by omega
      have e4 : (8 * (k : Int)) ≤ 64 := by omega
      go_region_held3 (fun _ => True) (trivial) (first
        | (go_at_call 31; refine (storeBE64 _ q).mono ?_; rintro e w5 ⟨vq, rfl, hO, hU6⟩)
        | ((refine step_copy_bytes rfl _ _ (by rfl) C (8 * k) (64 - 8 * k) (64 - 8 * k) (by rfl) _ (tell64 q) (by rfl) hO.rd _ _ (hU6.heap (show wr.drew.heap[C]? = _ from HCC.out) (by simp)) 8 (by rw [tell64_length]; omega) (by rw [List.length_map, told64_length _ _ hk]; omega) ?_; intro w6 hH hU7)))
      have hS : w6.heap[C]? = some (.cells ((told64 s2 (k + 1)).map U8).toArray 46 (0, 0)) := by
        rw [hH.out, ← told64_step s2 k hlt, HQ.out, List.take_of_length_le (by rw [tell64_length]; omega)]
        simp [splice]
      have hS0 : w6.heap[B]? = some (.cells (zrow8 64) 46 (0, 0)) := hU7.heap (hU6.heap (show wr.drew.heap[B]? = _ from HB0.out) (by simp)) (by simp; omega)
      have hU8 : Upd [] w w6 := (hU.drew.trans hU6).trans' hU7 (fun i hi hlt' => by simp at hi; have := HB.out; omega)
      have HS := Lib.hid hS
      have HS0 := Lib.hid hS0
      clear hS hS0 hH hU7 hU6 hO hidx e1 e2 e3 e4
      go_wp2
      go_roundw
      case rel => exact ⟨k + 1, by omega, by go_num, hU8, HS.out, HS0.out⟩
      case measure => simp [intOf]; omega
    · obtain rfl : k = 8 := by omega
      rw [told64_all] at hC
      have hs : (Tryd.prog.info? 46).map (·.size) = some (((hash64 s2).map U8).toArray).size := by simp only [List.size_toArray, List.length_map, hash64_length]; exact size_w64b
      have ho : (zrow8 64).size = (((hash64 s2).map U8).toArray).size := by simp only [List.size_toArray, List.length_map, hash64_length, zrow8_size]
      have ha : (((hash64 s2).map U8).toArray).all (·.oneCell') = true := by simp
      have HFIN : Hid (hash64 s2 = sha512 m) := by rw [HS2.out]; rfl
      obtain ⟨cells, hcells⟩ : ∃ c, ((hash64 s2).map U8).toArray = c := ⟨_, rfl⟩
      rw [hcells] at hC hs ho ha
      have HCELLS := Lib.hid hcells
      clear hcells
      go_wp2_with (first | (refine wpList_load_row rfl 46 _ rfl C rfl 46 _ (0, 0) _ hC Tryd.underlying46 rfl hs ?_) | (refine wpList_store_row rfl 46 _ _ rfl B _ rfl rfl 46 _ hB0 hs ho ha ?_))
      refine bodyPost_ret (v := .agg cells) (results_cell_row rfl _ _ B 46 _ (0, 0) _ rfl (setRow_heap wr B _ _ 46 (0, 0) hB0) Tryd.underlying46 rfl hs) rfl ⟨ret_eq ?_, hU.setRow _ _ (by have := HB.out; omega)⟩
      rw [← HCELLS.out, HFIN.out]
end Go.Proofs.YtghdininkolanaaDoor
