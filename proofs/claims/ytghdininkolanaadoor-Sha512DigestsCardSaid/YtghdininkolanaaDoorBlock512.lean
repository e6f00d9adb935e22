/-
  Package sha512: mix and Block, each by its contract.
-/
import Derived.Test.YtghdininkolanaaDoorSched512
import Derived.Test.YtghdininkolanaaDoorState
namespace Go.Proofs.YtghdininkolanaaDoor
open Go Go.RowKit Go.Proofs
/-- the round constants lie in their variable -/
def Gl512 (w : World) : Prop := ∃ T fr, w.heap[5]? = some (.cells (K512.map U64).toArray T fr)
theorem Gl512.upd {S : List Nat} {w w' : World} (h : Gl512 w) (u : Upd S w w') (hn : 5 ∉ S) : Gl512 w' :=
  let ⟨T, fr, h⟩ := h; ⟨T, fr, u.heap h hn⟩
set_option maxRecDepth 100000 in
set_option maxHeartbeats 400000 in
theorem mix64 (w : World) (x : BitVec 64) (i j k : Int) (hi : 0 ≤ i ∧ i < 64) (hj : 0 ≤ j ∧ j < 64) (hk : 0 ≤ k ∧ k < 64) : Calls Tryd.prog 53 #[U64 x, .int .i64 i, .int .i64 j, .int .i64 k] w fun e w' => e = .returned (U64 (turn3 x i.toNat j.toNat k.toNat)) ∧ ∃ n, w' = w.drewN n := by
  obtain ⟨i, rfl⟩ := Int.eq_ofNat_of_zero_le hi.1
  obtain ⟨j, rfl⟩ := Int.eq_ofNat_of_zero_le hj.1
  obtain ⟨k, rfl⟩ := Int.eq_ofNat_of_zero_le hk.1
  have h1 := fun w => rotr64 w x i (by omega)
  have h2 := fun w => rotr64 w x j (by omega)
  have h3 := fun w => rotr64 w x k (by omega)
  have H1 := Lib.hid h1
  have H2 := Lib.hid h2
  have H3 := Lib.hid h3
  clear h1 h2 h3
  go_enter Tryd.func53, Tryd.ntmps53
  go_wp2_with (first | (go_at_call_of 65 (Value.int IntKind.i64 i); refine (H1.out _).mono ?_; rintro e w' ⟨rfl, rfl⟩) | (go_at_call_of 65 (Value.int IntKind.i64 j); refine (H2.out _).mono ?_; rintro e w' ⟨rfl, rfl⟩) | (go_at_call_of 65 (Value.int IntKind.i64 k); refine (H3.out _).mono ?_; rintro e w' ⟨rfl, rfl⟩))
  go_ret
  exact ⟨rfl, 0, rfl⟩
@[go_sem] theorem zero_s64 (w : World) : (zeroValue 66).run Tryd.prog w = .ok (.agg (zrow64 8)) w := by kernel_rfl
theorem size_s64 : (Tryd.prog.info? 66).map (·.size) = some 8 := by kernel_rfl
theorem size_b128 : (Tryd.prog.info? 67).map (·.size) = some 128 := by kernel_rfl
theorem size_u64 : (Tryd.prog.info? 49).map (·.size) = some 1 := by kernel_rfl
theorem K512_length : K512.length = 80 := rfl
set_option maxRecDepth 100000 in
set_option maxHeartbeats 3200000 in
theorem block512_any (w : World) (s : St 64) (l : List (BitVec 8)) (hl : l.length = 128) (hg : Gl512 w) : Calls Tryd.prog 42 #[.agg (s.list.map U64).toArray, .agg (l.map U8).toArray] w fun e w' => e = .returned (.agg ((block512 s l).list.map U64).toArray) ∧ Upd [] w w' := by
  have hb : (Tryd.prog.info? 67).map (·.size) = some ((l.map U8).toArray).size := by simp only [List.size_toArray, List.length_map, hl]; exact size_b128
  obtain ⟨W, hWe⟩ : ∃ W, W = words64 l 80 := ⟨_, rfl⟩
  have hWl : W.length = 80 := by rw [hWe]; exact words64_length l 80
  have hsch := fun w => sched64 w l hl
  rw [← hWe] at hsch
  have Hsch := Lib.hid hsch
  have HW := Lib.hid hWe
  clear hsch hWe
  have hws : (Tryd.prog.info? 81).map (·.size) = some ((W.map U64).toArray).size := by simp only [List.size_toArray, List.length_map, hWl]; exact size_w64
  have hzs : (zrow64 80).size = ((W.map U64).toArray).size := by simp [zrow64, hWl]
  have hwa : ((W.map U64).toArray).all (·.oneCell') = true := by simp
  have hks : (Tryd.prog.info? 81).map (·.size) = some ((K512.map U64).toArray).size := size_w64
  go_enter Tryd.func42, Tryd.ntmps42
  go_wp2_with (first | (refine wpList_load_row rfl 67 _ rfl (w.heap.size + 1) rfl 67 (l.map U8).toArray (0, 0) _ (hget_old (hget_new (World.size_alloc _ _).symm)) Tryd.underlying67 rfl hb ?_) | (go_at_call 52; refine (Hsch.out _).mono ?_; rintro e w2 ⟨rfl, hu2⟩) | (refine wpList_store_row rfl 81 _ _ rfl _ (W.map U64).toArray rfl rfl 81 (zrow64 80) (hget_new rfl) hws hzs hwa ?_))
  generalize hw1 : ((w.alloc _).alloc _).alloc _ = w1 at hu2
  have hu1 : Upd [] w w1 := by rw [← hw1]; exact (((Upd.refl [] w).alloc _).alloc _).alloc _
  have h0 : w1.heap[w.heap.size]? = some (.cells (s.list.map U64).toArray 66 (0, 0)) := by rw [← hw1]; exact hget_old (hget_old (hget_new rfl))
  have h2 : ∃ old : Array Value, w1.heap[w.heap.size + 1 + 1]? = some (.cells old 66 (0, 0)) ∧ old.size = 8 := by rw [← hw1]; exact ⟨_, hget_new (by simp), rfl⟩
  obtain ⟨old, h2, hold⟩ := h2
  generalize hw3 : (w2.alloc _).setRow _ _ = w3
  obtain ⟨bw, hbw⟩ : ∃ bw, w2.heap.size = bw := ⟨_, rfl⟩
  have hu3 : Upd [] w2 w3 := by rw [← hw3]; exact ((Upd.refl [] w2).alloc _).setRow _ _ (by simp)
  have h5 : w3.heap[bw]? = some (.cells (W.map U64).toArray 81 (0, 0)) := by rw [← hw3, ← hbw]; exact setRow_heap _ _ _ _ 81 (0, 0) (hget_new rfl)
  have hlt : w.heap.size + 1 + 1 < bw := by have := lt_of_heap h2; have := hu2.size; omega
  have g0 := hu3.heap (hu2.heap h0 (by simp)) (by simp)
  have g2 := hu3.heap (hu2.heap h2 (by simp)) (by simp)
  have hu : Upd [] w w3 := (hu1.trans hu2).trans hu3
  have hG := hg.upd hu (by simp)
  clear hw3 hw1 hu1 hu2 hu3 h0 h2 hb hg Hsch hws hzs hwa
  rw [hbw]
  clear hbw
  have c0 : w3.cell? ⟨w.heap.size, 0, none⟩ = some (U64 s.a) := cell_of_row _ _ 0 _ _ _ g0
  have c1 : w3.cell? ⟨w.heap.size, 1, none⟩ = some (U64 s.b) := cell_of_row _ _ 1 _ _ _ g0
  have c2 : w3.cell? ⟨w.heap.size, 2, none⟩ = some (U64 s.c) := cell_of_row _ _ 2 _ _ _ g0
  have c3 : w3.cell? ⟨w.heap.size, 3, none⟩ = some (U64 s.d) := cell_of_row _ _ 3 _ _ _ g0
  have c4 : w3.cell? ⟨w.heap.size, 4, none⟩ = some (U64 s.e) := cell_of_row _ _ 4 _ _ _ g0
  have c5 : w3.cell? ⟨w.heap.size, 5, none⟩ = some (U64 s.f) := cell_of_row _ _ 5 _ _ _ g0
  have c6 : w3.cell? ⟨w.heap.size, 6, none⟩ = some (U64 s.g) := cell_of_row _ _ 6 _ _ _ g0
  have c7 : w3.cell? ⟨w.heap.size, 7, none⟩ = some (U64 s.h) := cell_of_row _ _ 7 _ _ _ g0
  go_quiet (fail)
  rename Nat => nq1
  go_wp2
  go_quiet (fail)
  clear c0 c1 c2 c3 c4 c5 c6 c7
  obtain ⟨TK, frK, hGK⟩ := hG
  obtain ⟨KS, hKS⟩ : ∃ KS, KS = K512 := ⟨_, rfl⟩
  rw [← hKS] at hGK hks
  have hKl : KS.length = 80 := by rw [hKS]; rfl
  have HKS := Lib.hid hKS
  clear hKS
  have hG : (((w3.drewN nq1).drewN nq)).heap[5]? = some (.cells (KS.map U64).toArray TK frK) := hGK
  obtain ⟨w4, hw4⟩ : ∃ w4, (w3.drewN nq1).drewN nq = w4 := ⟨_, rfl⟩
  rw [hw4] at hG ⊢
  have g0 : w4.heap[w.heap.size]? = some (.cells (s.list.map U64).toArray 66 (0, 0)) := by rw [← hw4]; exact g0
  have g2 : w4.heap[w.heap.size + 1 + 1]? = some (.cells old 66 (0, 0)) := by rw [← hw4]; exact g2
  have g5 : w4.heap[bw]? = some (.cells (W.map U64).toArray 81 (0, 0)) := by rw [← hw4]; exact h5
  have hu : Upd [] w w4 := by rw [← hw4]; exact (hu.drewN _).drewN _
  clear hw4 hGK h5
  go_wp2_with (first | (refine wpList_load_row rfl 81 _ rfl 5 rfl TK _ frK _ hG Tryd.underlying81 rfl hks ?_))
  go_loopw [6, 7, 8, 9, 10, 11, 12, 13, 39] (fun a b c d e f g h i wr => ∃ k n : Nat, k ≤ 80 ∧ i = .int .i64 k ∧ wr = w4.drewN n ∧ ∃ r : St 64, r = roundsTo round64 s KS W k ∧ a = U64 r.a ∧ b = U64 r.b ∧ c = U64 r.c ∧ d = U64 r.d ∧ e = U64 r.e ∧ f = U64 r.f ∧ g = U64 r.g ∧ h = U64 r.h) (fun _ _ _ _ _ _ _ _ i _ => 80 - (intOf i).toNat)
  case atStart => exact ⟨0, 0, by omega, rfl, rfl, s, rfl, rfl, rfl, rfl, rfl, rfl, rfl, rfl, rfl⟩
  case round =>
    obtain ⟨k, n, hk, rfl, rfl, r, hr, rfl, rfl, rfl, rfl, rfl, rfl, rfl, rfl⟩ := hrel
    by_cases hlt : k < 80
    · obtain ⟨x, hx⟩ : ∃ x, W.getD k 0 = x := ⟨_, rfl⟩
      obtain ⟨y, hy⟩ : ∃ y, KS.getD k 0 = y := ⟨_, rfl⟩
      have hidx := run_index_row (P := Tryd.prog) (T := 81) (cs := (KS.map U64).toArray) (v := U64 y) k Tryd.underlying81 Tryd.underlying49 rfl size_u64 hlt (by rw [← hy]; simp [hKl, hlt])
      have hcon : (w4.drewN n).cell? ⟨bw, k, none⟩ = some (U64 (W.getD k 0)) := by
        rw [cell_of_row _ _ k _ _ _ (show (w4.drewN n).heap[bw]? = _ from g5)]; simp [hWl, hlt]
      rw [hx] at hcon
      have HX := Lib.hid hx
      have HY := Lib.hid hy
      have HR := Lib.hid hr
      clear hx hy hr
      obtain ⟨wn, hwn⟩ : ∃ wn, w4.drewN n = wn := ⟨_, rfl⟩
      rw [hwn] at hcon ⊢
      have HWN := Lib.hid hwn
      clear hwn
      go_wp2
      have hki : (k : Int) < 80 := by omega
      go_quiet (exact Calls.quiet_of (mix64 _ _ _ _ _ (by omega) (by omega) (by omega)))
      go_wp2_with (first | (go_at_call 53; refine (mix64 _ _ _ _ _ (by omega) (by omega) (by omega)).mono ?_; rintro e w' ⟨rfl, nq2, rfl⟩))
      go_roundw
      case rel =>
        refine ⟨k + 1, n + (nq + nq2), by omega, by go_num, by rw [← HWN.out, World.drewN_drewN], round64 r y x, ?_, rfl, rfl, rfl, rfl, rfl, rfl, rfl, rfl⟩
        rw [HR.out, ← HX.out, ← HY.out]; rfl
      case measure => simp [intOf]; omega
    · obtain rfl : k = 80 := by omega
      obtain ⟨wn, hwn⟩ : ∃ wn, w4.drewN n = wn := ⟨_, rfl⟩
      have k0 : wn.heap[w.heap.size]? = some (.cells (s.list.map U64).toArray 66 (0, 0)) := by rw [← hwn]; exact g0
      have k2 : wn.heap[w.heap.size + 1 + 1]? = some (.cells old 66 (0, 0)) := by rw [← hwn]; exact g2
      have ku : Upd [] w wn := by rw [← hwn]; exact hu.drewN n
      rw [hwn]
      have HR := Lib.hid hr
      clear hwn g0 g2 hu hG hr
      go_wp2
      go_loopw [98] (fun i wr => ∃ k : Nat, k ≤ 8 ∧ i = .int .i64 k ∧ Upd [] w wr ∧ wr.heap[w.heap.size]? = some (.cells ((addTo s.list r.list k).map U64).toArray 66 (0, 0)) ∧ wr.heap[w.heap.size + 1 + 1]? = some (.cells old 66 (0, 0))) (fun i _ => 8 - (intOf i).toNat)
      case atStart => exact ⟨0, by omega, rfl, ku, k0, k2⟩
      case round =>
        obtain ⟨k, hk, rfl, hu, h0, h2⟩ := hrel
        by_cases hlt : k < 8
        · obtain ⟨x, hx⟩ : ∃ x, r.list.getD k 0 = x := ⟨_, rfl⟩
          obtain ⟨y, hy⟩ : ∃ y, s.list.getD k 0 = y := ⟨_, rfl⟩
          have hidx := run_index_row (P := Tryd.prog) (T := 66) k Tryd.underlying66 Tryd.underlying49 rfl size_u64 hlt (st_get U64 r k hlt)
          rw [hx, st_cells] at hidx
          have hcell : wr.cell? ⟨w.heap.size, k, none⟩ = some (U64 y) := by
            rw [cell_of_row _ _ k _ _ _ h0]; simp [addTo_get s r k hlt]; rw [← hy]; simp
          have hfr : wr.frozen? ⟨w.heap.size, k, none⟩ = false := frozen_of_row _ _ k _ _ h0
          have HX := Lib.hid hx
          have HY := Lib.hid hy
          have hki : (k : Int) < 8 := by omega
          clear hx hy
          go_wp2
          go_roundw
          case rel =>
            refine ⟨k + 1, by omega, by go_num, hu.setCell _ _ (by simp), ?_, ?_⟩
            · rw [heap_setCell_same _ _ _ _ _ _ h0]
              have := addTo_step s r k hlt
              rw [HX.out, HY.out] at this
              rw [← this]
              simp [List.map_set]
            · rw [heap_setCell_other _ _ _ _ (by simp; omega)]; exact h2
          case measure => simp [intOf]; omega
        · obtain rfl : k = 8 := by omega
          rw [addTo_end] at h0
          have hs : (Tryd.prog.info? 66).map (·.size) = some (((s.add r).list.map U64).toArray).size := size_s64
          have ho : old.size = (((s.add r).list.map U64).toArray).size := hold
          have ha : (((s.add r).list.map U64).toArray).all (·.oneCell') = true := by simp
          go_wp2_with (first | (refine wpList_load_row rfl 66 _ rfl w.heap.size rfl 66 _ (0, 0) _ h0 Tryd.underlying66 rfl hs ?_) | (refine wpList_store_row rfl 66 _ _ rfl (w.heap.size + 1 + 1) _ rfl rfl 66 _ h2 hs ho ha ?_))
          refine bodyPost_ret (v := .agg ((s.add r).list.map U64).toArray) (results_cell_row rfl _ _ (w.heap.size + 1 + 1) 66 _ (0, 0) _ rfl (setRow_heap wr (w.heap.size + 1 + 1) _ _ 66 (0, 0) h2) Tryd.underlying66 rfl hs) rfl ⟨ret_eq ?_, hu.setRow _ _ (by omega)⟩
          rw [HR.out, HW.out, HKS.out]; rfl
end Go.Proofs.YtghdininkolanaaDoor
