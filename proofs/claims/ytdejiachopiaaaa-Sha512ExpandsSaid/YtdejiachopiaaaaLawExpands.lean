/-
  The law Sha512Expands: for every block it returns true and makes only new memory.
-/
import Derived.Test.YtdejiachopiaaaaSched512
import Derived.Test.YtdejiachopiaaaaPlain64
namespace Go.Proofs.Ytdejiachopiaaaa
open Go Go.RowKit Go.Proofs
set_option maxHeartbeats 400000 in
theorem lawturned64 (w : World) (x : BitVec 64) (k : Int) (hk : 0 < k ∧ k < 64) : Calls Try.prog 15 #[U64 x, .int .u64 k] w fun e w' => e = .returned (U64 (x.rotateRight k.toNat)) ∧ w = w' := by
  obtain ⟨k, rfl⟩ := Int.eq_ofNat_of_zero_le (Int.le_of_lt hk.1)
  have he := Lib.hid (turned64_eq x k (by omega))
  have hle : (k : Int) ≤ 64 := by omega
  go_enter Try.func15, Try.ntmps15
  go_wp2
  go_ret
  refine ⟨ret_eq ?_, rfl⟩
  rw [Int.toNat_natCast, ← he.out]
  rfl
theorem size_l128 : (Try.prog.info? 27).map (·.size) = some 128 := by kernel_rfl
set_option maxRecDepth 100000 in
set_option maxHeartbeats 1600000 in
theorem law_expands (w : World) (l : List (BitVec 8)) (hl : l.length = 128) : Calls Try.prog 6 #[.agg (l.map U8).toArray] w fun e w' => e = .returned (.bool true) ∧ Upd [] w w' := by
  have hb : (Try.prog.info? 27).map (·.size) = some ((l.map U8).toArray).size := by simp only [List.size_toArray, List.length_map, hl]; exact size_l128
  obtain ⟨W, hW⟩ : ∃ W, words64 l 80 = W := ⟨_, rfl⟩
  have hWl : W.length = 80 := by rw [← hW]; exact words64_len l 80
  have hs0 : (Try.prog.info? 28).map (·.size) = some ((W.map U64).toArray).size := by simp only [List.size_toArray, List.length_map, hWl]; exact size_w64
  have hz0 : (zrow64 80).size = ((W.map U64).toArray).size := by simp [zrow64, hWl]
  have ha0 : ((W.map U64).toArray).all (·.oneCell') = true := by simp
  have hsch := fun w => sched64 w l hl
  rw [hW] at hsch
  have HS := Lib.hid hsch
  have hT := Lib.hid (words64_tell l hl)
  have hN := Lib.hid (words64_next l)
  rw [hW] at hT hN
  clear hsch hW
  go_enter Try.func6, Try.ntmps6
  go_upto_region 2 with (first | (refine wpList_load_row rfl 27 _ rfl w.heap.size rfl 27 _ (0, 0) _ (hget_new rfl) Try.underlying27 rfl hb ?_) | (go_at_call 14; refine (HS.out _).mono ?_; rintro e w2 ⟨rfl, hu2⟩) | (refine wpList_store_row rfl 28 _ _ rfl w2.heap.size _ rfl rfl 28 _ (hget_new rfl) hs0 hz0 ha0 ?_))
  generalize hw3 : World.setRow _ _ _ = w3
  have hu3 : Upd [] w w3 := by rw [← hw3]; exact ((((Upd.refl [] w).alloc _).trans hu2).alloc _).setRow _ _ (by have := hu2.size; simp at this; omega)
  have h0 : w3.heap[w.heap.size]? = some (.cells (l.map U8).toArray 27 (0, 0)) := by
    have hlt := hu2.size
    simp at hlt
    have e := hu2.heap (hget_new rfl) (by simp)
    rw [← hw3, setRow_other _ _ _ _ (by omega)]
    exact hget_old e
  obtain ⟨b, hbb⟩ : ∃ b, w2.heap.size = b := ⟨_, rfl⟩
  have h1 : w3.heap[b]? = some (.cells (W.map U64).toArray 28 (0, 0)) := by
    rw [← hw3, ← hbb]; exact setRow_heap _ _ _ _ 28 (0, 0) (hget_new rfl)
  rw [hbb]
  clear hw3 hbb hs0 hz0 ha0 HS hb hu2 w2
  have hd0 : ∀ wr, Upd [] w3 wr → ∀ (k : Nat) (h : k < 128), wr.cell? ⟨w.heap.size, k, none⟩ = some (U8 (l.getD k 0)) := fun wr hu k h => by
    refine (cell_of_row wr _ _ _ _ _ (hu.heap h0 (by simp))).trans ?_; simp [List.getElem?_eq_getElem (show k < l.length by omega)]
  have hd1 : ∀ wr, Upd [] w3 wr → ∀ (k : Nat) (h : k < 80), wr.cell? ⟨b, k, none⟩ = some (U64 (W.getD k 0)) := fun wr hu k h => by
    refine (cell_of_row wr _ _ _ _ _ (hu.heap h1 (by simp))).trans ?_; simp [List.getElem?_eq_getElem (show k < W.length by omega)]
  have HD0 := Lib.hid hd0
  have HD1 := Lib.hid hd1
  clear hd0 hd1
  go_wp2
  go_loopw [4] (fun i wr => ∃ k : Nat, k ≤ 128 ∧ i = .int .i64 k ∧ Upd [] w3 wr) (fun i _ => 128 - (intOf i).toNat)
  case atStart => exact ⟨0, by omega, rfl, Upd.refl _ _⟩
  case round =>
    obtain ⟨k, hk, rfl, hu⟩ := hrel
    by_cases h : k < 128
    · have c0 := HD0.out wr hu k h
      have c1 := HD1.out wr hu (k / 8) (by omega)
      have ht : (BitVec.setWidth 8 (W[k / 8]?.getD 0#64 >>> (56 - 8 * (k % 8))) != l[k]'(by omega)) = false := by
        have := hT.out k h
        rw [List.getD_eq_getElem?_getD, List.getD_eq_getElem?_getD, List.getElem?_eq_getElem (show k < l.length by omega)] at this
        rw [bne_eq_false_iff_eq]; exact this
      have hsh : (BitVec.ofInt 64 (56 - 8 * ((k : Int) % 8))).toNat = 56 - 8 * (k % 8) := by
        rw [BitVec.toNat_ofInt]; omega
      have hq : IntKind.i64.wrap ((k : Int) / 8) = (k : Int) / 8 := IntWalk.i64_in _ (by omega)
      have hq0 : 0 ≤ (k : Int) / 8 ∧ (k : Int) / 8 < 80 := by omega
      have hqn : ((k : Int) / 8).toNat = k / 8 := by omega
      go_wp2
      go_quiet (skip)
      rename Nat => nq
      go_wp2
      go_roundw
      case rel => exact ⟨k + 1, by omega, by go_num, hu.drewN nq⟩
      case measure => simp [intOf]; omega
    · go_wp2
      go_loopw [6] (fun i wr => ∃ k : Nat, 16 ≤ k ∧ k ≤ 80 ∧ i = .int .i64 k ∧ Upd [] w3 wr) (fun i _ => 80 - (intOf i).toNat)
      case atStart => exact ⟨16, by omega, by omega, rfl, hu⟩
      case round =>
        clear hk h
        obtain ⟨k, h16, hk, rfl, hu⟩ := hrel
        by_cases h : k < 80
        · have hc := HD1.out _ hu
          have i2 : (2 : Int) ≤ k ∧ (k : Int) - 2 < 80 := by omega
          have i7 : (7 : Int) ≤ k ∧ (k : Int) - 7 < 80 := by omega
          have i15 : (15 : Int) ≤ k ∧ (k : Int) - 15 < 80 := by omega
          have i16 : (16 : Int) ≤ k ∧ (k : Int) - 16 < 80 := by omega
          have n2 : ((k : Int) - 2).toNat = k - 2 := by omega
          have n7 : ((k : Int) - 7).toNat = k - 7 := by omega
          have n15 : ((k : Int) - 15).toNat = k - 15 := by omega
          have n16 : ((k : Int) - 16).toNat = k - 16 := by omega
          have g0 := hc k h
          have g2 := hc (k - 2) (by omega)
          have g7 := hc (k - 7) (by omega)
          have g15 := hc (k - 15) (by omega)
          have g16 := hc (k - 16) (by omega)
          have e := hN.out k h h16
          obtain ⟨x0, e0⟩ : ∃ x, W.getD k 0 = x := ⟨_, rfl⟩
          obtain ⟨x2, e2⟩ : ∃ x, W.getD (k - 2) 0 = x := ⟨_, rfl⟩
          obtain ⟨x7, e7⟩ : ∃ x, W.getD (k - 7) 0 = x := ⟨_, rfl⟩
          obtain ⟨x15, e15⟩ : ∃ x, W.getD (k - 15) 0 = x := ⟨_, rfl⟩
          obtain ⟨x16, e16⟩ : ∃ x, W.getD (k - 16) 0 = x := ⟨_, rfl⟩
          rw [e0] at g0
          rw [e2] at g2
          rw [e7] at g7
          rw [e15] at g15
          rw [e16] at g16
          rw [e0, e2, e7, e15, e16] at e
          clear hc e0 e2 e7 e15 e16
          have ht : (x0 != (x2.rotateRight 19 ^^^ x2.rotateRight 61 ^^^ x2 >>> 6) + x7 + (x15.rotateRight 1 ^^^ x15.rotateRight 8 ^^^ x15 >>> 7) + x16) = false := by
            rw [bne_eq_false_iff_eq]; exact e
          clear e
          go_wp2_with (first | (go_at_call 15; refine (lawturned64 _ _ _ (by omega)).mono ?_; rintro e w' ⟨rfl, rfl⟩))
          go_quiet (skip)
          rename Nat => nq
          go_wp2
          go_roundw
          case rel => exact ⟨k + 1, by omega, by omega, by go_num, hu.drewN nq⟩
          case measure => simp [intOf]; omega
        · go_wp2
          go_ret
          exact ⟨rfl, hu3.trans hu⟩
end Go.Proofs.Ytdejiachopiaaaa
