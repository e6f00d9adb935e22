/-
  Package sha256: turns and Block, each by its contract.
-/
import Derived.Test.YtaphbkkklapdaaaDoorSched256
import Derived.Test.YtaphbkkklapdaaaDoorState
namespace Go.Proofs.YtaphbkkklapdaaaDoor
open Go Go.RowKit Go.Proofs
/-- the round constants lie in their variable -/
def Gl256 (w : World) : Prop := ∀ i, i < 64 → w.cell? ⟨1, i, none⟩ = some (U32 (K256.getD i 0))
theorem Gl256.upd {S : List Nat} {w w' : World} (h : Gl256 w) (u : Upd S w w') (hn : 1 ∉ S) : Gl256 w' := fun i hi => u.cell (h i hi) hn
set_option maxRecDepth 100000 in
set_option maxHeartbeats 400000 in
theorem turns32 (w : World) (x : BitVec 32) (i j k : Int) (hi : 0 ≤ i ∧ i < 32) (hj : 0 ≤ j ∧ j < 32) (hk : 0 ≤ k ∧ k < 32) : Calls Tryd.prog 34 #[U32 x, .int .i64 i, .int .i64 j, .int .i64 k] w fun e w' => e = .returned (U32 (turn3 x i.toNat j.toNat k.toNat)) ∧ ∃ n, w' = w.drewN n := by
  obtain ⟨i, rfl⟩ := Int.eq_ofNat_of_zero_le hi.1
  obtain ⟨j, rfl⟩ := Int.eq_ofNat_of_zero_le hj.1
  obtain ⟨k, rfl⟩ := Int.eq_ofNat_of_zero_le hk.1
  have h1 := fun w => rotr32 w x i (by omega)
  have h2 := fun w => rotr32 w x j (by omega)
  have h3 := fun w => rotr32 w x k (by omega)
  have H1 := Lib.hid h1
  have H2 := Lib.hid h2
  have H3 := Lib.hid h3
  clear h1 h2 h3
  go_enter Tryd.func34, Tryd.ntmps34
  go_wp2_with (first | (go_at_call_of 42 (Value.int IntKind.i64 i); refine (H1.out _).mono ?_; rintro e w' ⟨rfl, rfl⟩) | (go_at_call_of 42 (Value.int IntKind.i64 j); refine (H2.out _).mono ?_; rintro e w' ⟨rfl, rfl⟩) | (go_at_call_of 42 (Value.int IntKind.i64 k); refine (H3.out _).mono ?_; rintro e w' ⟨rfl, rfl⟩))
  go_ret
  exact ⟨rfl, 0, rfl⟩
@[go_sem] theorem zero_s32 (w : World) : (zeroValue 54).run Tryd.prog w = .ok (.agg (zrow32 8)) w := by kernel_rfl
theorem size_s32 : (Tryd.prog.info? 54).map (·.size) = some 8 := by kernel_rfl
theorem size_b64 : (Tryd.prog.info? 55).map (·.size) = some 64 := by kernel_rfl
theorem size_u32 : (Tryd.prog.info? 53).map (·.size) = some 1 := by kernel_rfl
set_option maxRecDepth 100000 in
set_option maxHeartbeats 3200000 in
theorem block256_any (w : World) (s : St 32) (l : List (BitVec 8)) (hl : l.length = 64) (hg : Gl256 w) : Calls Tryd.prog 26 #[.agg (s.list.map U32).toArray, .agg (l.map U8).toArray] w fun e w' => e = .returned (.agg ((block256 s l).list.map U32).toArray) ∧ Upd [] w w' := by
  have hb : (Tryd.prog.info? 55).map (·.size) = some ((l.map U8).toArray).size := by simp only [List.size_toArray, List.length_map, hl]; exact size_b64
  obtain ⟨W, hWe⟩ : ∃ W, W = words32 l 64 := ⟨_, rfl⟩
  have hWl : W.length = 64 := by rw [hWe]; exact words32_length l 64
  have hsch := fun w => sched32 w l hl
  rw [← hWe] at hsch
  have Hsch := Lib.hid hsch
  have HW := Lib.hid hWe
  clear hsch hWe
  go_enter Tryd.func26, Tryd.ntmps26
  go_wp2
  generalize hw1 : ((w.alloc _).alloc _).alloc _ = w1
  have hu1 : Upd [] w w1 := by rw [← hw1]; exact (((Upd.refl [] w).alloc _).alloc _).alloc _
  have h0 : w1.heap[w.heap.size]? = some (.cells (s.list.map U32).toArray 54 (0, 0)) := by rw [← hw1]; exact hget_old (hget_old (hget_new rfl))
  have h1 : w1.heap[w.heap.size + 1]? = some (.cells (l.map U8).toArray 55 (0, 0)) := by rw [← hw1]; exact hget_old (hget_new (by simp))
  have h2 : ∃ old : Array Value, w1.heap[w.heap.size + 1 + 1]? = some (.cells old 54 (0, 0)) ∧ old.size = 8 := by rw [← hw1]; exact ⟨_, hget_new (by simp), rfl⟩
  obtain ⟨old, h2, hold⟩ := h2
  clear hw1
  have c0 : w1.cell? ⟨w.heap.size, 0, none⟩ = some (U32 s.a) := cell_of_row _ _ 0 _ _ _ h0
  have c1 : w1.cell? ⟨w.heap.size, 1, none⟩ = some (U32 s.b) := cell_of_row _ _ 1 _ _ _ h0
  have c2 : w1.cell? ⟨w.heap.size, 2, none⟩ = some (U32 s.c) := cell_of_row _ _ 2 _ _ _ h0
  have c3 : w1.cell? ⟨w.heap.size, 3, none⟩ = some (U32 s.d) := cell_of_row _ _ 3 _ _ _ h0
  have c4 : w1.cell? ⟨w.heap.size, 4, none⟩ = some (U32 s.e) := cell_of_row _ _ 4 _ _ _ h0
  have c5 : w1.cell? ⟨w.heap.size, 5, none⟩ = some (U32 s.f) := cell_of_row _ _ 5 _ _ _ h0
  have c6 : w1.cell? ⟨w.heap.size, 6, none⟩ = some (U32 s.g) := cell_of_row _ _ 6 _ _ _ h0
  have c7 : w1.cell? ⟨w.heap.size, 7, none⟩ = some (U32 s.h) := cell_of_row _ _ 7 _ _ _ h0
  go_quiet (fail)
  clear c0 c1 c2 c3 c4 c5 c6 c7
  go_wp2_with (first | (refine wpList_load_row rfl 55 _ rfl (w.heap.size + 1) rfl 55 _ (0, 0) _ h1 Tryd.underlying55 rfl hb ?_) | (go_at_call 33; refine (Hsch.out _).mono ?_; rintro e w2 ⟨rfl, hu2⟩))
  have g0 := hu2.heap (show (w1.drewN nq).heap[w.heap.size]? = _ from h0) (by simp)
  have g2 := hu2.heap (show (w1.drewN nq).heap[w.heap.size + 1 + 1]? = _ from h2) (by simp)
  have hu : Upd [] w w2 := (hu1.drewN nq).trans hu2
  have hG := hg.upd hu (by simp)
  clear hu1 hu2 h0 h1 h2 hb hg Hsch
  go_loopw [5, 6, 7, 8, 9, 10, 11, 12, 37] (fun a b c d e f g h i wr => ∃ k n : Nat, k ≤ 64 ∧ i = .int .i64 k ∧ wr = w2.drewN n ∧ ∃ r : St 32, r = roundsTo round32 s K256 W k ∧ a = U32 r.a ∧ b = U32 r.b ∧ c = U32 r.c ∧ d = U32 r.d ∧ e = U32 r.e ∧ f = U32 r.f ∧ g = U32 r.g ∧ h = U32 r.h) (fun _ _ _ _ _ _ _ _ i _ => 64 - (intOf i).toNat)
  case atStart => exact ⟨0, 0, by omega, rfl, rfl, s, rfl, rfl, rfl, rfl, rfl, rfl, rfl, rfl, rfl⟩
  case round =>
    obtain ⟨k, n, hk, rfl, rfl, r, hr, rfl, rfl, rfl, rfl, rfl, rfl, rfl, rfl⟩ := hrel
    by_cases hlt : k < 64
    · obtain ⟨x, hx⟩ : ∃ x, W.getD k 0 = x := ⟨_, rfl⟩
      obtain ⟨y, hy⟩ : ∃ y, K256.getD k 0 = y := ⟨_, rfl⟩
      have hidx := run_index_row (P := Tryd.prog) (T := 64) (cs := (W.map U32).toArray) (v := U32 x) k Tryd.underlying64 Tryd.underlying53 rfl size_u32 hlt (by rw [← hx]; simp [hWl, hlt])
      have hcon : (w2.drewN n).cell? ⟨1, k, none⟩ = some (U32 (K256.getD k 0)) := hG k hlt
      rw [hy] at hcon
      have HX := Lib.hid hx
      have HY := Lib.hid hy
      have HR := Lib.hid hr
      clear hx hy hr
      obtain ⟨wn, hwn⟩ : ∃ wn, w2.drewN n = wn := ⟨_, rfl⟩
      rw [hwn] at hcon ⊢
      have HWN := Lib.hid hwn
      clear hwn
      go_wp2
      have hki : (k : Int) < 64 := by omega
      go_quiet (exact Calls.quiet_of (turns32 _ _ _ _ _ (by omega) (by omega) (by omega)))
      go_wp2_with (first | (go_at_call 34; refine (turns32 _ _ _ _ _ (by omega) (by omega) (by omega)).mono ?_; rintro e w' ⟨rfl, nq2, rfl⟩))
      go_roundw
      case rel =>
        refine ⟨k + 1, n + (nq + nq2), by omega, by go_num, by rw [← HWN.out, World.drewN_drewN], round32 r y x, ?_, rfl, rfl, rfl, rfl, rfl, rfl, rfl, rfl⟩
        rw [HR.out, ← HX.out, ← HY.out]; rfl
      case measure => simp [intOf]; omega
    · obtain rfl : k = 64 := by omega
      obtain ⟨wn, hwn⟩ : ∃ wn, w2.drewN n = wn := ⟨_, rfl⟩
      have k0 : wn.heap[w.heap.size]? = some (.cells (s.list.map U32).toArray 54 (0, 0)) := by rw [← hwn]; exact g0
      have k2 : wn.heap[w.heap.size + 1 + 1]? = some (.cells old 54 (0, 0)) := by rw [← hwn]; exact g2
      have ku : Upd [] w wn := by rw [← hwn]; exact hu.drewN n
      rw [hwn]
      have HR := Lib.hid hr
      clear hwn g0 g2 hu hG hr
      go_wp2
      go_loopw [96] (fun i wr => ∃ k : Nat, k ≤ 8 ∧ i = .int .i64 k ∧ Upd [] w wr ∧ wr.heap[w.heap.size]? = some (.cells ((addTo s.list r.list k).map U32).toArray 54 (0, 0)) ∧ wr.heap[w.heap.size + 1 + 1]? = some (.cells old 54 (0, 0))) (fun i _ => 8 - (intOf i).toNat)
      case atStart => exact ⟨0, by omega, rfl, ku, k0, k2⟩
      case round =>
        obtain ⟨k, hk, rfl, hu, h0, h2⟩ := hrel
        by_cases hlt : k < 8
        · obtain ⟨x, hx⟩ : ∃ x, r.list.getD k 0 = x := ⟨_, rfl⟩
          obtain ⟨y, hy⟩ : ∃ y, s.list.getD k 0 = y := ⟨_, rfl⟩
          have hidx := run_index_row (P := Tryd.prog) (T := 54) k Tryd.underlying54 Tryd.underlying53 rfl size_u32 hlt (st_get U32 r k hlt)
          rw [hx, st_cells] at hidx
          have hcell : wr.cell? ⟨w.heap.size, k, none⟩ = some (U32 y) := by
            rw [cell_of_row _ _ k _ _ _ h0]; simp [addTo_get s r k hlt]; rw [← hy]; simp
          have hfr : wr.frozen? ⟨w.heap.size, k, none⟩ = false := frozen_of_row _ _ k _ _ h0
          have HX := Lib.hid hx
          have HY := Lib.hid hy
          have hki : (k : Int) < 8 := by omega
          clear hx hy
          go_wp2
          go_roundw
          case rel =>
            refine ⟨k + 1, by omega, by go_num, hu.setCell _ _ (by simp), ?_, ?_⟩
            · rw [heap_setCell_same _ _ _ _ _ _ h0]
              have := addTo_step s r k hlt
              rw [HX.out, HY.out] at this
              rw [← this]
              simp [List.map_set]
            · rw [heap_setCell_other _ _ _ _ (by simp; omega)]; exact h2
          case measure => simp [intOf]; omega
        · obtain rfl : k = 8 := by omega
          rw [addTo_end] at h0
          have hs : (Tryd.prog.info? 54).map (·.size) = some (((s.add r).list.map U32).toArray).size := size_s32
          have ho : old.size = (((s.add r).list.map U32).toArray).size := hold
          have ha : (((s.add r).list.map U32).toArray).all (·.oneCell') = true := by simp
          go_wp2_with (first | (refine wpList_load_row rfl 54 _ rfl w.heap.size rfl 54 _ (0, 0) _ h0 Tryd.underlying54 rfl hs ?_) | (refine wpList_store_row rfl 54 _ _ rfl (w.heap.size + 1 + 1) _ rfl rfl 54 _ h2 hs ho ha ?_))
          refine bodyPost_ret (v := .agg ((s.add r).list.map U32).toArray) (results_cell_row rfl _ _ (w.heap.size + 1 + 1) 54 _ (0, 0) _ rfl (setRow_heap wr (w.heap.size + 1 + 1) _ _ 54 (0, 0) h2) Tryd.underlying54 rfl hs) rfl ⟨ret_eq ?_, hu.setRow _ _ (by omega)⟩
          rw [HR.out, HW.out]; rfl
end Go.Proofs.YtaphbkkklapdaaaDoor
