/-
  The document's answer for sha512: R, s0, s1, word, round.
-/
import Derived.Test.YtghdininkolanaaDoorBlock512
import Derived.Test.YtghdininkolanaaDoorPlain64
namespace Go.Proofs.YtghdininkolanaaDoor
open Go Go.RowKit Go.Proofs
set_option maxRecDepth 100000 in
set_option maxHeartbeats 400000 in
theorem refR64 (w : World) (x : BitVec 64) (k : Int) (hk : 0 < k ∧ k < 64) : Calls Tryd.prog 57 #[U64 x, .int .u64 k] w fun e w' => e = .returned (U64 (x.rotateRight k.toNat)) ∧ w = w' := by
  obtain ⟨k, rfl⟩ := Int.eq_ofNat_of_zero_le (Int.le_of_lt hk.1)
  have he := Lib.hid (turned64_eq x k (by omega))
  have hle : (k : Int) ≤ 64 := by omega
  go_enter Tryd.func57, Tryd.ntmps57
  go_wp2
  go_ret
  refine ⟨ret_eq ?_, rfl⟩
  rw [Int.toNat_natCast, ← he.out]
  rfl
set_option maxRecDepth 100000 in
set_option maxHeartbeats 400000 in
theorem refs0 (w : World) (x : BitVec 64) : Calls Tryd.prog 56 #[U64 x] w fun e w' => e = .returned (U64 (bend x 1 8 7)) ∧ w = w' := by
  go_enter Tryd.func56, Tryd.ntmps56
  go_wp2_with (first | (go_at_call 57; refine (refR64 _ _ _ (by omega)).mono ?_; rintro e w' ⟨rfl, rfl⟩))
  go_ret
  exact ⟨rfl, rfl⟩
set_option maxRecDepth 100000 in
set_option maxHeartbeats 400000 in
theorem refs1 (w : World) (x : BitVec 64) : Calls Tryd.prog 55 #[U64 x] w fun e w' => e = .returned (U64 (bend x 19 61 6)) ∧ w = w' := by
  go_enter Tryd.func55, Tryd.ntmps55
  go_wp2_with (first | (go_at_call 57; refine (refR64 _ _ _ (by omega)).mono ?_; rintro e w' ⟨rfl, rfl⟩))
  go_ret
  exact ⟨rfl, rfl⟩
theorem be_add64 (n : Nat) (x : BitVec n) (c : BitVec 8) : x * BitVec.ofNat n 256 + c.setWidth n = x <<< 8 ||| c.setWidth n := by
  have e : x * BitVec.ofNat n 256 = x <<< 8 := by
    apply BitVec.eq_of_toNat_eq
    rw [BitVec.toNat_mul, BitVec.toNat_shiftLeft, Nat.shiftLeft_eq]
    show x.toNat * (256 % 2 ^ n) % 2 ^ n = _
    rw [Nat.mul_mod_mod]
  rw [e]
  apply BitVec.add_eq_or_of_and_eq_zero
  ext i hi
  simp only [BitVec.getElem_and, BitVec.getElem_shiftLeft, BitVec.getElem_setWidth, BitVec.getElem_zero]
  by_cases h : i < 8
  · simp [h]
  · simp [BitVec.getLsbD_of_ge c i (by omega)]
set_option maxRecDepth 100000 in
set_option maxHeartbeats 400000 in
theorem refword64 (w : World) (b o c : Nat) (p : List (BitVec 8)) (hp : p.length = 8) (hb : Bytes w b o p) :
    Calls Tryd.prog 54 #[.slice (some ⟨b, o, none⟩) 8 c] w fun e w' => e = .returned (U64 (be 64 p)) ∧ w = w' := by
  go_enter Tryd.func54, Tryd.ntmps54
  go_wp2
  go_loop [3, 4] (fun x i => ∃ k : Nat, k ≤ 8 ∧ i = .int .i64 k ∧ x = U64 (be 64 (p.take k))) (fun _ i => 8 - (intOf i).toNat)
  case atStart => exact ⟨0, by omega, rfl, rfl⟩
  case round =>
    obtain ⟨k, hk, rfl, rfl⟩ := hrel
    by_cases h : k < 8
    · have hcell := hb k (by omega)
      have hs := be_snoc 64 (p.take k) (p[k]'(by omega))
      rw [← take_snoc' p k (by omega), ← be_add64 64] at hs
      have HS := Lib.hid hs
      clear hs
      go_wp2
      go_round
      case rel => exact ⟨k + 1, by omega, by go_num, by rw [HS.out]⟩
      case measure => simp [intOf]; omega
    · obtain rfl : k = 8 := by omega
      have ht := Lib.hid (show p.take 8 = p from List.take_of_length_le (by omega))
      go_wp2
      go_ret
      exact ⟨ret_eq (by show U64 (be 64 (p.take 8)) = _; rw [ht.out]), rfl⟩
set_option maxRecDepth 100000 in
set_option maxHeartbeats 3200000 in
theorem refround64 (w : World) (s : St 64) (k x : BitVec 64) : Calls Tryd.prog 45 #[.agg (s.list.map U64).toArray, U64 k, U64 x] w fun e w' => e = .returned (.agg ((round64 s k x).list.map U64).toArray) ∧ Upd [] w w' := by
  go_enter Tryd.func45, Tryd.ntmps45
  rw [st_cells U64 s]
  go_wp2_with (first | (go_at_call 57; refine (refR64 _ _ _ (by omega)).mono ?_; rintro e w' ⟨rfl, rfl⟩))
  generalize hw1 : (w.alloc _).alloc _ = w1
  have hu : Upd [] w w1 := by rw [← hw1]; exact ((Upd.refl [] w).alloc _).alloc _
  have h0 : w1.heap[w.heap.size]? = some (.cells (s.list.map U64).toArray 66 (0, 0)) := by rw [← hw1]; exact hget_old (hget_new rfl)
  have h2 : ∃ old : Array Value, w1.heap[w.heap.size + 1]? = some (.cells old 66 (0, 0)) ∧ old.size = 8 := by rw [← hw1]; exact ⟨_, hget_new (by simp), rfl⟩
  obtain ⟨old, h2, hold⟩ := h2
  have hlt := lt_of_heap h2
  clear hw1
  obtain ⟨c0, c1, c2, c3, c4, c5, c6, c7⟩ := st_row U64 s h0
  go_quiet (exact Calls.quiet_of_same ((refR64 _ _ _ (by omega)).mono fun _ _ h => ⟨h.1, h.2.symm⟩))
  obtain ⟨w2, hw2⟩ : ∃ w2, w1.drewN nq = w2 := ⟨_, rfl⟩
  have h0 : w2.heap[w.heap.size]? = some (.cells (s.list.map U64).toArray 66 (0, 0)) := by rw [← hw2]; exact h0
  have h2 : w2.heap[w.heap.size + 1]? = some (.cells old 66 (0, 0)) := by rw [← hw2]; exact h2
  have hu : Upd [] w w2 := by rw [← hw2]; exact hu.drewN nq
  rw [hw2]
  clear hw2 hlt c0 c1 c2 c3 c4 c5 c6 c7
  obtain ⟨c0, c1, c2, c3, c4, c5, c6, c7⟩ := st_row U64 s h0
  have hs : (Tryd.prog.info? 66).map (·.size) = some (((round64 s k x).list.map U64).toArray).size := by kernel_rfl
  have hH := Lib.hid h2
  clear h2
  have hall : ∀ a b c d e f g h : BitVec 64, (#[U64 a, U64 b, U64 c, U64 d, U64 e, U64 f, U64 g, U64 h] : Array Value).all (·.oneCell') = true := by intros; simp
  have HA := Lib.hid hall
  clear hall h0
  go_wp2_with (first | (go_at_call 57; refine (refR64 _ _ _ (by omega)).mono ?_; rintro e w' ⟨rfl, rfl⟩) | (refine wpList_store_row rfl 66 _ _ rfl (w.heap.size + 1) _ rfl rfl 66 old hH.out (by kernel_rfl) hold (HA.out _ _ _ _ _ _ _ _) ?_))
  refine bodyPost_ret (v := .agg ((round64 s k x).list.map U64).toArray) (results_cell_row rfl _ _ (w.heap.size + 1) 66 ((round64 s k x).list.map U64).toArray (0, 0) _ rfl (setRow_heap w2 (w.heap.size + 1) _ _ 66 (0, 0) hH.out) Tryd.underlying66 rfl hs) rfl ⟨rfl, hu.setRow _ _ (by omega)⟩
end Go.Proofs.YtghdininkolanaaDoor
