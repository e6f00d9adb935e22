/-
  Package sha512: bend and Schedule, each by its contract.
-/
import Derived.Test.YtghdininkolanaaDoorBits64
import Derived.Test.YtghdininkolanaaDoorSpec
namespace Go.Proofs.YtghdininkolanaaDoor
open Go Go.RowKit Go.Proofs
set_option maxRecDepth 100000 in
set_option maxHeartbeats 400000 in
theorem bend64' (w : World) (x : BitVec 64) (i j s : Nat) (hi : i < 64) (hj : j < 64) : Calls Tryd.prog 64 #[U64 x, .int .i64 i, .int .i64 j, .int .i64 s] w fun e w' => e = .returned (U64 (bend x i j s)) ∧ ∃ n, w' = w.drewN n := by
  go_enter Tryd.func64, Tryd.ntmps64
  go_wp2
  go_quiet (first | (go_at_call_of 65 (Value.int IntKind.i64 i); exact Calls.quiet_of_same ((rotr64 _ x i hi).mono fun _ _ h => ⟨h.1, h.2.symm⟩)) | (go_at_call_of 65 (Value.int IntKind.i64 j); exact Calls.quiet_of_same ((rotr64 _ x j hj).mono fun _ _ h => ⟨h.1, h.2.symm⟩)))
  go_wp2
  go_ret
  exact ⟨rfl, _, rfl⟩
theorem bend64 (w : World) (x : BitVec 64) (i j s : Int) (hi : 0 ≤ i ∧ i < 64) (hj : 0 ≤ j ∧ j < 64) (hs : 0 ≤ s) : Calls Tryd.prog 64 #[U64 x, .int .i64 i, .int .i64 j, .int .i64 s] w fun e w' => e = .returned (U64 (bend x i.toNat j.toNat s.toNat)) ∧ ∃ n, w' = w.drewN n := by
  obtain ⟨i, rfl⟩ := Int.eq_ofNat_of_zero_le hi.1
  obtain ⟨j, rfl⟩ := Int.eq_ofNat_of_zero_le hj.1
  obtain ⟨s, rfl⟩ := Int.eq_ofNat_of_zero_le hs
  exact bend64' w x i j s (by omega) (by omega)
theorem words64_length (l : List (BitVec 8)) (t : Nat) : (words64 l t).length = t := by
  induction t with
  | zero => rfl
  | succ t ih => simp [words64, ih]
def sched64Cells (l : List (BitVec 8)) (k : Nat) : Array Value := ((words64 l k).map U64 ++ List.replicate (80 - k) (U64 0)).toArray
theorem sched64Cells_get (l : List (BitVec 8)) (k j : Nat) (h : j < k) : (sched64Cells l k)[j]? = some (U64 ((words64 l k).getD j 0)) := by
  have hl := words64_length l k
  simp [sched64Cells, List.getElem?_append, hl, h]
theorem sched64Cells_new (l : List (BitVec 8)) (k : Nat) (h : k < 80) : (sched64Cells l k)[k]? = some (U64 0) := by
  simp [sched64Cells, words64_length, List.getElem?_append, List.getElem?_replicate]; omega
theorem sched64Cells_step (l : List (BitVec 8)) (k : Nat) (h : k < 80) : (sched64Cells l k).setIfInBounds k (U64 (if k < 16 then be 64 ((l.drop (8 * k)).take 8) else nextW64 (words64 l k) k)) = sched64Cells l (k + 1) := by
  apply Array.ext'
  have e : 80 - k = (80 - (k + 1)) + 1 := by omega
  simp only [sched64Cells, Array.toList_setIfInBounds, words64, List.map_append, List.map_cons, List.map_nil, e, List.replicate_succ]
  rw [List.set_append_right _ _ (by simp [words64_length])]
  simp [words64_length]
theorem sched64Cells_size (l : List (BitVec 8)) (k : Nat) (hk : k ≤ 80) : (sched64Cells l k).size = 80 := by
  simp [sched64Cells, words64_length]; omega
theorem sched64Cells_all (l : List (BitVec 8)) (k : Nat) : (sched64Cells l k).all (·.oneCell') = true := by
  simp [sched64Cells]
theorem sched64Cells_end (l : List (BitVec 8)) : Value.agg (sched64Cells l 80) = .agg ((words64 l 80).map U64).toArray := by
  unfold sched64Cells; rw [Nat.sub_self, List.replicate_zero, List.append_nil]
@[go_sem] theorem zero_w64 (w : World) : (zeroValue 81).run Tryd.prog w = .ok (.agg (zrow64 80)) w := by kernel_rfl
theorem size_w64 : (Tryd.prog.info? 81).map (·.size) = some 80 := by kernel_rfl
set_option maxRecDepth 100000 in
set_option maxHeartbeats 1600000 in
theorem sched64 (w : World) (l : List (BitVec 8)) (hl : l.length = 128) : Calls Tryd.prog 52 #[.agg (l.map U8).toArray] w fun e w' => e = .returned (.agg ((words64 l 80).map U64).toArray) ∧ Upd [] w w' := by
  go_enter Tryd.func52, Tryd.ntmps52
  go_wp2
  go_loopw [4, 5] (fun _ i wr => ∃ k : Nat, k ≤ 80 ∧ i = .int .i64 k ∧ Upd [] w wr ∧ wr.heap[w.heap.size]? = some (.cells (l.map U8).toArray 67 (0, 0)) ∧ wr.heap[w.heap.size + 1]? = some (.cells (zrow64 80) 81 (0, 0)) ∧ wr.heap[w.heap.size + 1 + 1]? = some (.cells (sched64Cells l k) 81 (0, 0))) (fun _ i _ => 80 - (intOf i).toNat)
  case atStart =>
    exact ⟨0, by omega, rfl, ((Upd.refl [] w).alloc _).alloc _ |>.alloc _, hget_old (hget_old (hget_new rfl)), hget_old (hget_new (by simp)), hget_new (by simp)⟩
  case round =>
    obtain ⟨k, hk, rfl, hu, h0, h1, h2⟩ := hrel
    have hc2 := fun j => cell_of_row wr (w.heap.size + 1 + 1) j _ _ _ h2
    have hf2 := fun j => frozen_of_row wr (w.heap.size + 1 + 1) j _ _ h2
    by_cases h16 : k < 16
    · have hB : Bytes wr w.heap.size 0 l := Bytes.of_row h0 l 0 (fun i hi => by simp [hi])
      have hg := sched64Cells_new l k (by omega)
      go_wp2_with (first | (go_at_call 63; refine (loadBE64 wr _ _ _ (8 * k) _ (by omega) l hl hB (by omega) (by omega)).mono ?_; rintro e w' ⟨rfl, rfl⟩))
      go_roundw
      case rel =>
        refine ⟨k + 1, by omega, by go_num, hu.setCell _ _ (by simp; omega), ?_, ?_, ?_⟩
        · rw [heap_setCell_other _ _ _ _ (by simp; omega)]; exact h0
        · rw [heap_setCell_other _ _ _ _ (by simp)]; exact h1
        · rw [heap_setCell_same _ _ _ _ _ _ h2]
          have := sched64Cells_step l k (by omega)
          rw [if_pos h16] at this; rw [this]
      case measure => simp [intOf]; omega
    · by_cases h80 : k < 80
      · have g2 := sched64Cells_get l k (k - 2) (by omega)
        have g7 := sched64Cells_get l k (k - 7) (by omega)
        have g15 := sched64Cells_get l k (k - 15) (by omega)
        have g16 := sched64Cells_get l k (k - 16) (by omega)
        have gn := sched64Cells_new l k h80
        have i2 : (2 : Int) ≤ k ∧ (k : Int) - 2 < 80 := by omega
        have i7 : (7 : Int) ≤ k ∧ (k : Int) - 7 < 80 := by omega
        have i15 : (15 : Int) ≤ k ∧ (k : Int) - 15 < 80 := by omega
        have i16 : (16 : Int) ≤ k ∧ (k : Int) - 16 < 80 := by omega
        have n2 : ((k : Int) - 2).toNat = k - 2 := by omega
        have n7 : ((k : Int) - 7).toNat = k - 7 := by omega
        have n15 : ((k : Int) - 15).toNat = k - 15 := by omega
        have n16 : ((k : Int) - 16).toNat = k - 16 := by omega
        go_wp2
        refine wp_region_quiet_tail 23 (fun w' => ∃ n, w' = wr.drewN n) (by kernel_rfl) (by kernel_rfl) ⟨1, rfl⟩ ?_
        simp only [List.take_succ_cons, List.take_zero, List.drop_succ_cons, List.drop_zero]
        repeat ((refine wpQuiet_step (fun K hK => ?_)); go_simp; (try go_bits); first | (refine hK _ ?_; clear hK K) | (apply Exists.intro; refine ⟨fun _ => ?_, hK _ ?_⟩; (exact Calls.quiet_of (bend64 _ _ _ _ _ (by omega) (by omega) (by omega))); clear hK K))
        refine wpQuiet_nil ?_
        rintro _ ⟨nq, rfl⟩
        go_wp2
        go_roundw
        case rel =>
          refine ⟨k + 1, by omega, by go_num, (hu.drewN nq).setCell _ _ (by simp; omega), ?_, ?_, ?_⟩
          · rw [heap_setCell_other _ _ _ _ (by simp; omega)]; exact h0
          · rw [heap_setCell_other _ _ _ _ (by simp)]; exact h1
          · rw [heap_setCell_same _ _ _ _ _ _ (show (wr.drewN nq).heap[w.heap.size + 1 + 1]? = _ from h2)]
            have := sched64Cells_step l k h80
            rw [if_neg h16] at this
            simp only [nextW64, List.getD_eq_getElem?_getD] at this
            exact congrArg (fun c => some (Obj.cells c 81 (0, 0))) this
        case measure => simp [intOf]; omega
      · obtain rfl : k = 80 := by omega
        have hs : (Tryd.prog.info? 81).map (·.size) = some (sched64Cells l 80).size := by rw [sched64Cells_size l 80 (by omega)]; exact size_w64
        have ho : (zrow64 80).size = (sched64Cells l 80).size := by rw [sched64Cells_size l 80 (by omega)]; simp [zrow64]
        have ha := sched64Cells_all l 80
        clear hc2 hf2
        go_wp2_with (first | (refine wpList_load_row rfl 81 _ rfl (w.heap.size + 1 + 1) rfl 81 _ (0, 0) _ h2 Tryd.underlying81 rfl hs ?_) | (refine wpList_store_row rfl 81 _ _ rfl (w.heap.size + 1) _ rfl rfl 81 _ h1 hs ho ha ?_))
        refine bodyPost_ret (v := .agg (sched64Cells l 80)) (results_cell_row rfl _ _ (w.heap.size + 1) 81 _ (0, 0) _ rfl (setRow_heap wr (w.heap.size + 1) _ _ 81 (0, 0) h1) Tryd.underlying81 rfl hs) rfl ⟨ret_eq (sched64Cells_end l), hu.setRow _ _ (by omega)⟩
end Go.Proofs.YtghdininkolanaaDoor
