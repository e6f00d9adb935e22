/-
  The document's answer for sha256: turned, word, round.
-/
import Derived.Test.YtaphbkkklapdaaaDoorBlock256
namespace Go.Proofs.YtaphbkkklapdaaaDoor
open Go Go.RowKit Go.Proofs
theorem turned32_eq (x : BitVec 32) (k : Nat) (h : k < 32) : x >>> k ||| x <<< (32 - k) = x.rotateRight k := by
  simp [BitVec.rotateRight, BitVec.rotateRightAux, Nat.mod_eq_of_lt h]
set_option maxRecDepth 100000 in
set_option maxHeartbeats 400000 in
theorem turned32 (w : World) (x : BitVec 32) (k : Int) (hk : 0 < k ∧ k < 32) : Calls Tryd.prog 45 #[U32 x, .int .i64 k] w fun e w' => e = .returned (U32 (x.rotateRight k.toNat)) ∧ w = w' := by
  obtain ⟨k, rfl⟩ := Int.eq_ofNat_of_zero_le (Int.le_of_lt hk.1)
  have he := Lib.hid (turned32_eq x k (by omega))
  have hle : (k : Int) ≤ 32 := by omega
  go_enter Tryd.func45, Tryd.ntmps45
  go_wp2
  go_ret
  refine ⟨ret_eq ?_, rfl⟩
  rw [Int.toNat_natCast, ← he.out]
  rfl
@[go_sem] theorem sub_allOnes32 (x : BitVec 32) : 4294967295#32 - x = ~~~ x := by
  have := BitVec.allOnes_sub_eq_not x
  exact this
theorem be_add (n : Nat) (x : BitVec n) (c : BitVec 8) : x * 256 + c.setWidth n = x <<< 8 ||| c.setWidth n := by
  have e : x * 256 = x <<< 8 := by
    apply BitVec.eq_of_toNat_eq
    rw [BitVec.toNat_mul, BitVec.toNat_shiftLeft, Nat.shiftLeft_eq]
    show x.toNat * (256 % 2 ^ n) % 2 ^ n = _
    rw [Nat.mul_mod_mod]
  rw [e]
  apply BitVec.add_eq_or_of_and_eq_zero
  ext i hi
  simp only [BitVec.getElem_and, BitVec.getElem_shiftLeft, BitVec.getElem_setWidth, BitVec.getElem_zero]
  by_cases h : i < 8
  · simp [h]
  · simp [BitVec.getLsbD_of_ge c i (by omega)]
set_option maxRecDepth 100000 in
set_option maxHeartbeats 400000 in
theorem word32 (w : World) (b o n at_ : Nat) (a : Int) (ha : a = at_) (l : List (BitVec 8)) (hl : l.length = n) (hb : Bytes w b o l) (h1 : at_ + 4 ≤ n) (h2 : n ≤ 4096) :
    Calls Tryd.prog 44 #[.slice (some ⟨b, o, none⟩) n n, .int .i64 a] w fun e w' => e = .returned (U32 (be 32 ((l.drop at_).take 4))) ∧ w = w' := by
  subst ha
  have hb2 : Bytes w b (o + at_) ((l.drop at_).take 4) := (hb.drop at_).take 4
  obtain ⟨p, hp⟩ : ∃ p, p = (l.drop at_).take 4 := ⟨_, rfl⟩
  rw [← hp] at hb2 ⊢
  have hpl : p.length = 4 := by rw [hp]; simp; omega
  clear hp hb
  go_enter Tryd.func44, Tryd.ntmps44
  go_wp2
  go_loop [5, 6] (fun x i => ∃ k : Nat, k ≤ 4 ∧ i = .int .i64 k ∧ x = U32 (be 32 (p.take k))) (fun _ i => 4 - (intOf i).toNat)
  case atStart => exact ⟨0, by omega, rfl, rfl⟩
  case round =>
    obtain ⟨k, hk, rfl, rfl⟩ := hrel
    by_cases h : k < 4
    · have hcell := hb2 k (by omega)
      rw [Nat.add_assoc] at hcell
      have hs := be_snoc 32 (p.take k) (p[k]'(by omega))
      rw [← take_snoc' p k (by omega), ← be_add 32] at hs
      have HS := Lib.hid hs
      clear hs
      go_wp2
      go_round
      case rel => exact ⟨k + 1, by omega, by go_num, by rw [HS.out]; rfl⟩
      case measure => simp [intOf]; omega
    · obtain rfl : k = 4 := by omega
      have ht := Lib.hid (show p.take 4 = p from List.take_of_length_le (by omega))
      go_wp2
      go_ret
      exact ⟨ret_eq (by show U32 (be 32 (p.take 4)) = _; rw [ht.out]), rfl⟩
set_option maxRecDepth 100000 in
set_option maxHeartbeats 3200000 in
theorem refround32 (w : World) (s : St 32) (k x : BitVec 32) : Calls Tryd.prog 39 #[.agg (s.list.map U32).toArray, U32 k, U32 x] w fun e w' => e = .returned (.agg ((round32 s k x).list.map U32).toArray) ∧ Upd [] w w' := by
  go_enter Tryd.func39, Tryd.ntmps39
  rw [st_cells U32 s]
  go_wp2_with (first | (go_at_call 45; refine (turned32 _ _ _ (by omega)).mono ?_; rintro e w' ⟨rfl, rfl⟩))
  generalize hw1 : (w.alloc _).alloc _ = w1
  have hu : Upd [] w w1 := by rw [← hw1]; exact ((Upd.refl [] w).alloc _).alloc _
  have h0 : w1.heap[w.heap.size]? = some (.cells (s.list.map U32).toArray 54 (0, 0)) := by rw [← hw1]; exact hget_old (hget_new rfl)
  have h2 : ∃ old : Array Value, w1.heap[w.heap.size + 1]? = some (.cells old 54 (0, 0)) ∧ old.size = 8 := by rw [← hw1]; exact ⟨_, hget_new (by simp), rfl⟩
  obtain ⟨old, h2, hold⟩ := h2
  have hlt := lt_of_heap h2
  clear hw1
  have c0 : w1.cell? ⟨w.heap.size, 0, none⟩ = some (U32 s.a) := cell_of_row _ _ 0 _ _ _ h0
  have c1 : w1.cell? ⟨w.heap.size, 1, none⟩ = some (U32 s.b) := cell_of_row _ _ 1 _ _ _ h0
  have c2 : w1.cell? ⟨w.heap.size, 2, none⟩ = some (U32 s.c) := cell_of_row _ _ 2 _ _ _ h0
  have c3 : w1.cell? ⟨w.heap.size, 3, none⟩ = some (U32 s.d) := cell_of_row _ _ 3 _ _ _ h0
  have c4 : w1.cell? ⟨w.heap.size, 4, none⟩ = some (U32 s.e) := cell_of_row _ _ 4 _ _ _ h0
  have c5 : w1.cell? ⟨w.heap.size, 5, none⟩ = some (U32 s.f) := cell_of_row _ _ 5 _ _ _ h0
  have c6 : w1.cell? ⟨w.heap.size, 6, none⟩ = some (U32 s.g) := cell_of_row _ _ 6 _ _ _ h0
  have c7 : w1.cell? ⟨w.heap.size, 7, none⟩ = some (U32 s.h) := cell_of_row _ _ 7 _ _ _ h0
  go_quiet (exact Calls.quiet_of_same ((turned32 _ _ _ (by omega)).mono fun _ _ h => ⟨h.1, h.2.symm⟩))
  obtain ⟨w2, hw2⟩ : ∃ w2, w1.drewN nq = w2 := ⟨_, rfl⟩
  have c0 : w2.cell? ⟨w.heap.size, 0, none⟩ = some (U32 s.a) := by rw [← hw2]; exact c0
  have c1 : w2.cell? ⟨w.heap.size, 1, none⟩ = some (U32 s.b) := by rw [← hw2]; exact c1
  have c2 : w2.cell? ⟨w.heap.size, 2, none⟩ = some (U32 s.c) := by rw [← hw2]; exact c2
  have c3 : w2.cell? ⟨w.heap.size, 3, none⟩ = some (U32 s.d) := by rw [← hw2]; exact c3
  have c4 : w2.cell? ⟨w.heap.size, 4, none⟩ = some (U32 s.e) := by rw [← hw2]; exact c4
  have c5 : w2.cell? ⟨w.heap.size, 5, none⟩ = some (U32 s.f) := by rw [← hw2]; exact c5
  have c6 : w2.cell? ⟨w.heap.size, 6, none⟩ = some (U32 s.g) := by rw [← hw2]; exact c6
  have h2 : w2.heap[w.heap.size + 1]? = some (.cells old 54 (0, 0)) := by rw [← hw2]; exact h2
  have hu : Upd [] w w2 := by rw [← hw2]; exact hu.drewN nq
  have hz : w.heap.size + 1 < w2.heap.size := lt_of_heap h2
  have hz0 : w.heap.size < w2.heap.size := by omega
  rw [hw2]
  clear hw2 h0 hlt c7
  go_wp2_with (first | (go_at_call 45; refine (turned32 _ _ _ (by omega)).mono ?_; rintro e w' ⟨rfl, rfl⟩))
  refine wp_loop_rounds 8 ?_
  iterate 7 (rw [rounds_succ]; go_wp2)
  rw [rounds_succ]
  have hH := Lib.hid h2
  clear h2
  have hall : ∀ a b c d e f g h : BitVec 32, (#[U32 a, U32 b, U32 c, U32 d, U32 e, U32 f, U32 g, U32 h] : Array Value).all (·.oneCell') = true := by intros; simp
  have HA := Lib.hid hall
  clear hall
  go_wp2_with (first | (refine wpList_load_row rfl 54 _ rfl _ rfl 54 _ (0, 0) _ (hget_new rfl) Tryd.underlying54 rfl size_s32 ?_) | (refine wpList_store_row rfl 54 _ _ rfl (w.heap.size + 1) _ rfl rfl 54 old (hget_old hH.out) size_s32 hold (HA.out ..) ?_))
  refine bodyPost_ret (v := .agg ((round32 s k x).list.map U32).toArray) ?hr rfl ?hR
  case hr =>
    refine results_cell_row rfl _ _ (w.heap.size + 1) 54 ((round32 s k x).list.map U32).toArray (0, 0) _ rfl ?_ Tryd.underlying54 rfl size_s32
    exact setRow_heap _ _ _ _ 54 (0, 0) (hget_old hH.out)
  case hR => exact ⟨rfl, (hu.alloc _).setRow _ _ (by omega)⟩
end Go.Proofs.YtaphbkkklapdaaaDoor
