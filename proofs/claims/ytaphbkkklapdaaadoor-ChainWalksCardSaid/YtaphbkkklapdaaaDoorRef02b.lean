/-
  The document's answer for sha256: Schedule.
-/
import Derived.Test.YtaphbkkklapdaaaDoorRef02a
namespace Go.Proofs.YtaphbkkklapdaaaDoor
open Go Go.RowKit Go.Proofs
set_option maxRecDepth 100000 in
set_option maxHeartbeats 1600000 in
theorem refsched32 (w : World) (l : List (BitVec 8)) (hl : l.length = 64) : Calls Tryd.prog 37 #[.agg (l.map U8).toArray] w fun e w' => e = .returned (.agg ((words32 l 64).map U32).toArray) ∧ Upd [] w w' := by
  go_enter Tryd.func37, Tryd.ntmps37
  go_wp2
  go_loopw [4] (fun i wr => ∃ k : Nat, k ≤ 16 ∧ i = .int .i64 k ∧ Upd [] w wr ∧ wr.heap[w.heap.size]? = some (.cells (l.map U8).toArray 55 (0, 0)) ∧ wr.heap[w.heap.size + 1]? = some (.cells (zrow32 64) 64 (0, 0)) ∧ wr.heap[w.heap.size + 1 + 1]? = some (.cells (sched32Cells l k) 64 (0, 0))) (fun i _ => 16 - (intOf i).toNat)
  case atStart =>
    exact ⟨0, by omega, rfl, ((Upd.refl [] w).alloc _).alloc _ |>.alloc _, hget_old (hget_old (hget_new rfl)), hget_old (hget_new (by simp)), hget_new (by simp)⟩
  case round =>
    obtain ⟨k, hk, rfl, hu, h0, h1, h2⟩ := hrel
    by_cases h16 : k < 16
    · have hc2 := fun j => cell_of_row wr (w.heap.size + 1 + 1) j _ _ _ h2
      have hf2 := fun j => frozen_of_row wr (w.heap.size + 1 + 1) j _ _ h2
      have hB : Bytes wr w.heap.size 0 l := Bytes.of_row h0 l 0 (fun i hi => by simp [hi])
      have hg := sched32Cells_new l k (by omega)
      go_wp2_with (first | (go_at_call 44; refine (word32 wr _ _ _ (4 * k) _ (by omega) l hl hB (by omega) (by omega)).mono ?_; rintro e w' ⟨rfl, rfl⟩))
      go_roundw
      case rel =>
        refine ⟨k + 1, by omega, by go_num, hu.setCell _ _ (by simp; omega), ?_, ?_, ?_⟩
        · rw [heap_setCell_other _ _ _ _ (by simp; omega)]; exact h0
        · rw [heap_setCell_other _ _ _ _ (by simp)]; exact h1
        · rw [heap_setCell_same _ _ _ _ _ _ h2]
          have := sched32Cells_step l k (by omega)
          rw [if_pos h16] at this; rw [this]
      case measure => simp [intOf]; omega
    · obtain rfl : k = 16 := by omega
      go_wp2
      clear h0
      rw [show ((16 : Nat) : Int) = 16 from rfl]
      go_loopw [5] (fun i wr => ∃ k : Nat, 16 ≤ k ∧ k ≤ 64 ∧ i = .int .i64 k ∧ Upd [] w wr ∧ wr.heap[w.heap.size + 1]? = some (.cells (zrow32 64) 64 (0, 0)) ∧ wr.heap[w.heap.size + 1 + 1]? = some (.cells (sched32Cells l k) 64 (0, 0))) (fun i _ => 64 - (intOf i).toNat)
      case atStart => exact ⟨16, by omega, by omega, rfl, hu, h1, h2⟩
      case round =>
        clear hu h1 h2
        obtain ⟨k, hk1, hk, rfl, hu, h1, h2⟩ := hrel
        by_cases h80 : k < 64
        · have hc2 := fun j => cell_of_row wr (w.heap.size + 1 + 1) j _ _ _ h2
          have hf2 := fun j => frozen_of_row wr (w.heap.size + 1 + 1) j _ _ h2
          have g2 := sched32Cells_get l k (k - 2) (by omega)
          have g7 := sched32Cells_get l k (k - 7) (by omega)
          have g15 := sched32Cells_get l k (k - 15) (by omega)
          have g16 := sched32Cells_get l k (k - 16) (by omega)
          have gn := sched32Cells_new l k h80
          have i2 : (2 : Int) ≤ k ∧ (k : Int) - 2 < 64 := by omega
          have i7 : (7 : Int) ≤ k ∧ (k : Int) - 7 < 64 := by omega
          have i15 : (15 : Int) ≤ k ∧ (k : Int) - 15 < 64 := by omega
          have i16 : (16 : Int) ≤ k ∧ (k : Int) - 16 < 64 := by omega
          have n2 : ((k : Int) - 2).toNat = k - 2 := by omega
          have n7 : ((k : Int) - 7).toNat = k - 7 := by omega
          have n15 : ((k : Int) - 15).toNat = k - 15 := by omega
          have n16 : ((k : Int) - 16).toNat = k - 16 := by omega
          have hki : (k : Int) < 64 := by omega
          go_wp2_with (first | (go_at_call 45; refine (turned32 _ _ _ (by omega)).mono ?_; rintro e w' ⟨rfl, rfl⟩))
          refine wp_region_quiet_tail 15 (fun w' => ∃ n, w' = wr.drewN n) (by kernel_rfl) (by kernel_rfl) ⟨1, rfl⟩ ?_
          simp only [List.take_succ_cons, List.take_zero, List.drop_succ_cons, List.drop_zero]
          repeat ((refine wpQuiet_step (fun K hK => ?_)); go_simp; (try go_bits); (refine hK _ ?_; clear hK K))
          refine wpQuiet_nil ?_
          rintro _ ⟨nq, rfl⟩
          go_wp2
          go_roundw
          case rel =>
            refine ⟨k + 1, by omega, by omega, by go_num, (hu.drewN nq).setCell _ _ (by simp; omega), ?_, ?_⟩
            · rw [heap_setCell_other _ _ _ _ (by simp)]; exact h1
            · rw [heap_setCell_same _ _ _ _ _ _ (show (wr.drewN nq).heap[w.heap.size + 1 + 1]? = _ from h2)]
              have := sched32Cells_step l k h80
              rw [if_neg (by omega)] at this
              simp only [nextW32, bend, List.getD_eq_getElem?_getD] at this
              exact congrArg (fun c => some (Obj.cells c 64 (0, 0))) this
          case measure => simp [intOf]; omega
        · obtain rfl : k = 64 := by omega
          have hs : (Tryd.prog.info? 64).map (·.size) = some (sched32Cells l 64).size := by rw [sched32Cells_size l 64 (by omega)]; exact size_w32
          have ho : (zrow32 64).size = (sched32Cells l 64).size := by rw [sched32Cells_size l 64 (by omega)]; simp [zrow32]
          have ha := sched32Cells_all l 64
          go_wp2_with (first | (refine wpList_load_row rfl 64 _ rfl (w.heap.size + 1 + 1) rfl 64 _ (0, 0) _ h2 Tryd.underlying64 rfl hs ?_) | (refine wpList_store_row rfl 64 _ _ rfl (w.heap.size + 1) _ rfl rfl 64 _ h1 hs ho ha ?_))
          refine bodyPost_ret (v := .agg (sched32Cells l 64)) (results_cell_row rfl _ _ (w.heap.size + 1) 64 _ (0, 0) _ rfl (setRow_heap wr (w.heap.size + 1) _ _ 64 (0, 0) h1) Tryd.underlying64 rfl hs) rfl ⟨ret_eq (sched32Cells_end l), hu.setRow _ _ (by omega)⟩
end Go.Proofs.YtaphbkkklapdaaaDoor
