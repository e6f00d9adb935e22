/-
  Package sha256: mix and Schedule, each by its contract.
-/
import Derived.Test.YtaphbkkklapdaaaDoorBits32
import Derived.Test.YtaphbkkklapdaaaDoorSpec
namespace Go.Proofs.YtaphbkkklapdaaaDoor
open Go Go.RowKit Go.Proofs
set_option maxRecDepth 100000 in
set_option maxHeartbeats 400000 in
theorem bend32' (w : World) (x : BitVec 32) (i j s : Nat) (hi : i < 32) (hj : j < 32) : Calls Tryd.prog 41 #[U32 x, .int .i64 i, .int .i64 j, .int .i64 s] w fun e w' => e = .returned (U32 (bend x i j s)) ∧ ∃ n, w' = w.drewN n := by
  go_enter Tryd.func41, Tryd.ntmps41
  go_wp2
  go_quiet (first | (go_at_call_of 42 (Value.int IntKind.i64 i); exact Calls.quiet_of_same ((rotr32 _ x i hi).mono fun _ _ h => ⟨h.1, h.2.symm⟩)) | (go_at_call_of 42 (Value.int IntKind.i64 j); exact Calls.quiet_of_same ((rotr32 _ x j hj).mono fun _ _ h => ⟨h.1, h.2.symm⟩)))
  go_wp2
  go_ret
  exact ⟨rfl, _, rfl⟩
theorem bend32 (w : World) (x : BitVec 32) (i j s : Int) (hi : 0 ≤ i ∧ i < 32) (hj : 0 ≤ j ∧ j < 32) (hs : 0 ≤ s) : Calls Tryd.prog 41 #[U32 x, .int .i64 i, .int .i64 j, .int .i64 s] w fun e w' => e = .returned (U32 (bend x i.toNat j.toNat s.toNat)) ∧ ∃ n, w' = w.drewN n := by
  obtain ⟨i, rfl⟩ := Int.eq_ofNat_of_zero_le hi.1
  obtain ⟨j, rfl⟩ := Int.eq_ofNat_of_zero_le hj.1
  obtain ⟨s, rfl⟩ := Int.eq_ofNat_of_zero_le hs
  exact bend32' w x i j s (by omega) (by omega)
theorem words32_length (l : List (BitVec 8)) (t : Nat) : (words32 l t).length = t := by
  induction t with
  | zero => rfl
  | succ t ih => simp [words32, ih]
def sched32Cells (l : List (BitVec 8)) (k : Nat) : Array Value := ((words32 l k).map U32 ++ List.replicate (64 - k) (U32 0)).toArray
theorem sched32Cells_get (l : List (BitVec 8)) (k j : Nat) (h : j < k) : (sched32Cells l k)[j]? = some (U32 ((words32 l k).getD j 0)) := by
  have hl := words32_length l k
  simp [sched32Cells, List.getElem?_append, hl, h]
theorem sched32Cells_new (l : List (BitVec 8)) (k : Nat) (h : k < 64) : (sched32Cells l k)[k]? = some (U32 0) := by
  simp [sched32Cells, words32_length, List.getElem?_append, List.getElem?_replicate]; omega
theorem sched32Cells_step (l : List (BitVec 8)) (k : Nat) (h : k < 64) : (sched32Cells l k).setIfInBounds k (U32 (if k < 16 then be 32 ((l.drop (4 * k)).take 4) else nextW32 (words32 l k) k)) = sched32Cells l (k + 1) := by
  apply Array.ext'
  have e : 64 - k = (64 - (k + 1)) + 1 := by omega
  simp only [sched32Cells, Array.toList_setIfInBounds, words32, List.map_append, List.map_cons, List.map_nil, e, List.replicate_succ]
  rw [List.set_append_right _ _ (by simp [words32_length])]
  simp [words32_length]
theorem sched32Cells_size (l : List (BitVec 8)) (k : Nat) (hk : k ≤ 64) : (sched32Cells l k).size = 64 := by
  simp [sched32Cells, words32_length]; omega
theorem sched32Cells_all (l : List (BitVec 8)) (k : Nat) : (sched32Cells l k).all (·.oneCell') = true := by
  simp [sched32Cells]
theorem sched32Cells_end (l : List (BitVec 8)) : Value.agg (sched32Cells l 64) = .agg ((words32 l 64).map U32).toArray := by
  unfold sched32Cells; rw [Nat.sub_self, List.replicate_zero, List.append_nil]
@[go_sem] theorem zero_w32 (w : World) : (zeroValue 64).run Tryd.prog w = .ok (.agg (zrow32 64)) w := by kernel_rfl
theorem size_w32 : (Tryd.prog.info? 64).map (·.size) = some 64 := by kernel_rfl
set_option maxRecDepth 100000 in
set_option maxHeartbeats 1600000 in
theorem sched32 (w : World) (l : List (BitVec 8)) (hl : l.length = 64) : Calls Tryd.prog 33 #[.agg (l.map U8).toArray] w fun e w' => e = .returned (.agg ((words32 l 64).map U32).toArray) ∧ Upd [] w w' := by
  go_enter Tryd.func33, Tryd.ntmps33
  go_wp2
  go_loopw [4, 5] (fun _ i wr => ∃ k : Nat, k ≤ 64 ∧ i = .int .i64 k ∧ Upd [] w wr ∧ wr.heap[w.heap.size]? = some (.cells (l.map U8).toArray 55 (0, 0)) ∧ wr.heap[w.heap.size + 1]? = some (.cells (zrow32 64) 64 (0, 0)) ∧ wr.heap[w.heap.size + 1 + 1]? = some (.cells (sched32Cells l k) 64 (0, 0))) (fun _ i _ => 64 - (intOf i).toNat)
  case atStart =>
    exact ⟨0, by omega, rfl, ((Upd.refl [] w).alloc _).alloc _ |>.alloc _, hget_old (hget_old (hget_new rfl)), hget_old (hget_new (by simp)), hget_new (by simp)⟩
  case round =>
    obtain ⟨k, hk, rfl, hu, h0, h1, h2⟩ := hrel
    have hc2 := fun j => cell_of_row wr (w.heap.size + 1 + 1) j _ _ _ h2
    have hf2 := fun j => frozen_of_row wr (w.heap.size + 1 + 1) j _ _ h2
    by_cases h16 : k < 16
    · have hB : Bytes wr w.heap.size 0 l := Bytes.of_row h0 l 0 (fun i hi => by simp [hi])
      have hg := sched32Cells_new l k (by omega)
      go_wp2_with (first | (go_at_call 40; refine (loadBE32 wr _ _ _ (4 * k) _ (by omega) l hl hB (by omega) (by omega)).mono ?_; rintro e w' ⟨rfl, rfl⟩))
      go_roundw
      case rel =>
        refine ⟨k + 1, by omega, by go_num, hu.setCell _ _ (by simp; omega), ?_, ?_, ?_⟩
        · rw [heap_setCell_other _ _ _ _ (by simp; omega)]; exact h0
        · rw [heap_setCell_other _ _ _ _ (by simp)]; exact h1
        · rw [heap_setCell_same _ _ _ _ _ _ h2]
          have := sched32Cells_step l k (by omega)
          rw [if_pos h16] at this; rw [this]
      case measure => simp [intOf]; omega
    · by_cases h80 : k < 64
      · have g2 := sched32Cells_get l k (k - 2) (by omega)
        have g7 := sched32Cells_get l k (k - 7) (by omega)
        have g15 := sched32Cells_get l k (k - 15) (by omega)
        have g16 := sched32Cells_get l k (k - 16) (by omega)
        have gn := sched32Cells_new l k h80
        have i2 : (2 : Int) ≤ k ∧ (k : Int) - 2 < 64 := by omega
        have i7 : (7 : Int) ≤ k ∧ (k : Int) - 7 < 64 := by omega
        have i15 : (15 : Int) ≤ k ∧ (k : Int) - 15 < 64 := by omega
        have i16 : (16 : Int) ≤ k ∧ (k : Int) - 16 < 64 := by omega
        have n2 : ((k : Int) - 2).toNat = k - 2 := by omega
        have n7 : ((k : Int) - 7).toNat = k - 7 := by omega
        have n15 : ((k : Int) - 15).toNat = k - 15 := by omega
        have n16 : ((k : Int) - 16).toNat = k - 16 := by omega
        go_wp2
        refine wp_region_quiet_tail 23 (fun w' => ∃ n, w' = wr.drewN n) (by kernel_rfl) (by kernel_rfl) ⟨1, rfl⟩ ?_
        simp only [List.take_succ_cons, List.take_zero, List.drop_succ_cons, List.drop_zero]
        repeat ((refine wpQuiet_step (fun K hK => ?_)); go_simp; (try go_bits); first | (refine hK _ ?_; clear hK K) | (apply Exists.intro; refine ⟨fun _ => ?_, hK _ ?_⟩; (exact Calls.quiet_of (bend32 _ _ _ _ _ (by omega) (by omega) (by omega))); clear hK K))
        refine wpQuiet_nil ?_
        rintro _ ⟨nq, rfl⟩
        go_wp2
        go_roundw
        case rel =>
          refine ⟨k + 1, by omega, by go_num, (hu.drewN nq).setCell _ _ (by simp; omega), ?_, ?_, ?_⟩
          · rw [heap_setCell_other _ _ _ _ (by simp; omega)]; exact h0
          · rw [heap_setCell_other _ _ _ _ (by simp)]; exact h1
          · rw [heap_setCell_same _ _ _ _ _ _ (show (wr.drewN nq).heap[w.heap.size + 1 + 1]? = _ from h2)]
            have := sched32Cells_step l k h80
            rw [if_neg h16] at this
            simp only [nextW32, List.getD_eq_getElem?_getD] at this
            exact congrArg (fun c => some (Obj.cells c 64 (0, 0))) this
        case measure => simp [intOf]; omega
      · obtain rfl : k = 64 := by omega
        have hs : (Tryd.prog.info? 64).map (·.size) = some (sched32Cells l 64).size := by rw [sched32Cells_size l 64 (by omega)]; exact size_w32
        have ho : (zrow32 64).size = (sched32Cells l 64).size := by rw [sched32Cells_size l 64 (by omega)]; simp [zrow32]
        have ha := sched32Cells_all l 64
        clear hc2 hf2
        go_wp2_with (first | (refine wpList_load_row rfl 64 _ rfl (w.heap.size + 1 + 1) rfl 64 _ (0, 0) _ h2 Tryd.underlying64 rfl hs ?_) | (refine wpList_store_row rfl 64 _ _ rfl (w.heap.size + 1) _ rfl rfl 64 _ h1 hs ho ha ?_))
        refine bodyPost_ret (v := .agg (sched32Cells l 64)) (results_cell_row rfl _ _ (w.heap.size + 1) 64 _ (0, 0) _ rfl (setRow_heap wr (w.heap.size + 1) _ _ 64 (0, 0) h1) Tryd.underlying64 rfl hs) rfl ⟨ret_eq (sched32Cells_end l), hu.setRow _ _ (by omega)⟩
end Go.Proofs.YtaphbkkklapdaaaDoor
