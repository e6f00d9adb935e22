/-
  The padding of sha256, the program's own and the document's: one list of bytes.
-/
import Derived.Test.YtaphbkkklapdaaaDoorStore64
namespace Go.Proofs.YtaphbkkklapdaaaDoor
open Go Go.RowKit Go.Proofs
def noughts256 (x : BitVec 64) : Nat := (64 - (x.toNat % 64 + 9) % 64) % 64
def pad256 (x : BitVec 64) : List (BitVec 8) := ((128 : BitVec 8) :: List.replicate (noughts256 x) (0 : BitVec 8)) ++ tell64 (x * 8#64)
theorem pad256_length (x : BitVec 64) : (pad256 x).length = 9 + noughts256 x := by simp [pad256, tell64_length]; omega
theorem noughts256_lt (x : BitVec 64) : noughts256 x < 64 := by unfold noughts256; omega
set_option maxRecDepth 100000 in
set_option maxHeartbeats 1600000 in
theorem padof256 (w : World) (x : BitVec 64) : Calls Tryd.prog 27 #[U64 x] w fun e w' => ∃ v, e = .returned v ∧ OwnB w' w.heap.size v (pad256 x) ∧ Upd [] w w' := by
  have hz := noughts256_lt x
  go_enter Tryd.func27, Tryd.ntmps27
  go_upto_region 2 with (fail)
  have hl2 : ((64 - ((x.toNat : Int) + 9) % 64) % 64 : Int) = ((noughts256 x : Nat) : Int) := by unfold noughts256; omega
  simp only [hl2]
  clear hl2
  obtain ⟨z, hzz⟩ : ∃ z, noughts256 x = z := ⟨_, rfl⟩
  rw [hzz] at hz ⊢
  have HZ := Lib.hid hzz
  clear hzz
  go_upto_region 3 with (first
    | (refine make_bytes rfl _ _ rfl w.heap.size (1 + z) (1 + z + 8) _ _ rfl rfl (by omega) (by omega) (by omega) (by omega) (Nat.le_refl _) ?_; intro w1 hO1 hU1))
  have hs1 := OwnB.set hO1 0 (by simp; omega) 128
  have hf1 := OwnB.frozen hO1 0 (by simp; omega)
  have hc1 := OwnB.cell hO1 0 (by simp; omega)
  have e1 : (List.replicate (1 + z) (0 : BitVec 8)).set 0 128 = 128 :: List.replicate z 0 := by rw [Nat.add_comm, List.replicate_succ]; rfl
  rw [e1] at hs1
  have hu1 := hU1.setCell ⟨w.heap.size, 0, none⟩ (U8 128) (by simp)
  have hr : (0 : Int) < 1 + z ∧ 0 < 1 + z := by omega
  obtain ⟨y, hy⟩ : ∃ y, w1.setCell ⟨w.heap.size, 0, none⟩ (U8 128) = y := ⟨_, rfl⟩
  have HS := Lib.hid hs1
  clear hs1
  go_upto_region 4 with (fail)
  have hy' : w1.setCell ⟨w.heap.size, 0, none⟩ (Value.int IntKind.u8 128) = y := hy
  rw [hy']
  have hO2 := HS.out
  rw [hy] at hO2 hu1
  clear hy hy' HS e1 hc1 hf1 hO1 hU1
  have hs2 := hu1.size
  go_wp2_with (first
    | (go_at_call 35; refine (storeBE64 _ _).mono ?_; rintro e w4 ⟨v4, rfl, hO4, hU4⟩; obtain ⟨g4, c4, rfl, _, _, _, _⟩ := hO4.at (by rw [tell64_length]; omega); rw [tell64_length])
    | (refine append_bytes rfl _ _ rfl w.heap.size (.slice (some ⟨w.heap.size, 0, none⟩) (1 + z) (1 + z + 8)) _ rfl (hO2.upd0 hU4) g4 0 8 _ (tell64 (x * 8#64)) rfl (tell64_length _) hO4.bytes (by simp; omega) (Nat.le_trans hs2 hU4.size) ?_; intro v5 w5 hO5 _ hU5 _))
  go_ret
  refine ⟨_, rfl, ?_, (hu1.trans hU4).row hU5 (fun g hg => by simp [Value.ownBlock] at hg; omega)⟩
  unfold pad256
  rw [HZ.out]
  exact hO5
theorem tell64_take' (x : BitVec 64) (j : Nat) (h : j + 1 ≤ 8) : (tell64 x).take (8 - j) = (tell64 x).take (8 - (j + 1)) ++ [(x >>> (8 * j)).setWidth 8] := by
  rw [show 8 - j = (8 - (j + 1)) + 1 by omega, take_snoc' _ (8 - (j + 1)) (by rw [tell64_length]; omega), tell64_get x _ (by omega)]
  rw [show 56 - 8 * (8 - (j + 1)) = 8 * j by omega]
set_option maxRecDepth 100000 in
set_option maxHeartbeats 3200000 in
theorem refpad256 (w : World) (x : BitVec 64) : Calls Tryd.prog 29 #[U64 x] w fun e w' => ∃ v, e = .returned v ∧ OwnB w' w.heap.size v (pad256 x) ∧ Upd [] w w' := by
  have hz := noughts256_lt x
  have hZ : ∀ k : Nat, k ≤ noughts256 x → ((x.toNat % 64 + (k + 1) + 8) % 64 = 0 ↔ k = noughts256 x) := fun k hk => by unfold noughts256 at hk ⊢; omega
  obtain ⟨z, hzz⟩ : ∃ z, noughts256 x = z := ⟨_, rfl⟩
  rw [hzz] at hz hZ
  have HZ := Lib.hid hzz
  clear hzz
  go_enter Tryd.func29, Tryd.ntmps29
  go_upto_region 2 with (fail)
  have hrow : OwnB (w.alloc (.cells #[Value.int IntKind.u8 128] 5)) w.heap.size (.slice (some ⟨w.heap.size, 0, none⟩) 1 1) [128] :=
    ⟨rfl, .inr ⟨w.heap.size, 1, #[Value.int IntKind.u8 128], rfl, Nat.le_refl _, hget_new rfl, by simp, by simp [maxLen], rfl, rfl⟩⟩
  have hu : Upd [] w (w.alloc (.cells #[Value.int IntKind.u8 128] 5)) := (Upd.refl _ w).alloc _
  generalize hw1 : w.alloc (.cells #[Value.int IntKind.u8 128] 5) = w1
  rw [hw1] at hrow hu
  clear hw1
  have HZ1 := Lib.hid hZ
  clear hZ
  go_loopw [3] (fun v wr => ∃ k : Nat, k ≤ z ∧ OwnB wr w.heap.size v ((128 : BitVec 8) :: List.replicate k 0) ∧ Upd [] w wr) (fun v _ => z + 1 - slen v)
  case atStart => exact ⟨0, by omega, hrow, hu⟩
  case round =>
    clear hrow hu
    obtain ⟨k, hk, hO, hU⟩ := hrel
    have hs := hU.size
    obtain ⟨a, c, ev⟩ := hO.isSlice
    rw [List.length_cons, List.length_replicate] at ev
    subst ev
    have hlen : ((128 : BitVec 8) :: List.replicate k 0).length ≤ 200 := by simp; omega
    have hx2 := x.isLt
    have ht : ((x % 64#64 + BitVec.ofInt 64 ((k : Int) + 1) + 8#64) % 64#64).toNat = (x.toNat % 64 + (k + 1) + 8) % 64 := by
      rw [show ((k : Int) + 1) = ((k + 1 : Nat) : Int) by omega, ofInt_nat]
      simp [BitVec.toNat_umod, BitVec.toNat_add, BitVec.toNat_ofNat]
    by_cases h : k = z
    · subst h
      have hc := (HZ1.out k hk).2 rfl
      rw [hc] at ht
      go_wp2
      go_loopw [3, 5] (fun v i wr => ∃ j : Nat, j ≤ 8 ∧ i = .int .i64 ((j : Int) - 1) ∧ OwnB wr w.heap.size v (((128 : BitVec 8) :: List.replicate k 0) ++ (tell64 (x * 8#64)).take (8 - j)) ∧ Upd [] w wr) (fun _ i _ => (intOf i + 1).toNat)
      case atStart => exact ⟨8, by omega, rfl, by simpa using hO, hU⟩
      case round =>
        clear hO hU hs
        obtain ⟨j, hj, rfl, hO, hU⟩ := hrel
        have hs := hU.size
        cases j with
        | zero =>
          go_wp2
          go_ret
          refine ⟨_, rfl, ?_, hU⟩
          unfold pad256
          rw [HZ.out]
          rw [Nat.sub_zero, List.take_of_length_le (by rw [tell64_length]; omega)] at hO
          exact hO
        | succ j =>
          have hl2 : (((128 : BitVec 8) :: List.replicate k 0) ++ (tell64 (x * 8#64)).take (8 - (j + 1))).length ≤ 300 := by simp; omega
          have hk : (intOf (Value.int IntKind.i64 ((j : Int) - 1)) + 1).toNat < (intOf (Value.int IntKind.i64 (((j + 1 : Nat) : Int) - 1)) + 1).toNat := by simp [intOf]
          have h8 : (0 : Int) ≤ 8 * j := by omega
          have h8n : (8 * (j : Int)).toNat = 8 * j := by omega
          have e9 := tell64_take' (x * 8#64) j hj
          have HK := Lib.hid hk
          have HE := Lib.hid e9
          clear hk e9
          go_wp2_with (first | (refine append_byte rfl _ _ rfl w.heap.size u3 _ rfl wr (((x * 8#64) >>> (8 * j)).setWidth 8) rfl hO rfl (by omega) hs ?_; intro v2 w2 hO2 _ hU2 _))
          exact ⟨⟨j, by omega, rfl, by rw [HE.out, ← List.append_assoc]; exact hO2, hU.row hU2 (fun g hg => (hO.lt g hg).1)⟩, HK.out⟩
    · have hc : ¬ (x.toNat % 64 + (k + 1) + 8) % 64 = 0 := fun e => h ((HZ1.out k hk).1 e)
      go_wp2_with (first | (refine append_byte rfl _ _ rfl w.heap.size (.slice a (k + 1) c) _ rfl wr 0 rfl hO rfl (by omega) hs ?_; intro v2 w2 hO2 _ hU2 _))
      have e2 : ((128 : BitVec 8) :: List.replicate k 0) ++ [0] = 128 :: List.replicate (k + 1) 0 := by
        rw [List.replicate_succ']; rfl
      rw [e2] at hO2
      obtain ⟨a2, c2, ev2⟩ := hO2.isSlice
      subst ev2
      go_roundw
      case rel => exact ⟨k + 1, by omega, hO2, hU.row hU2 (fun g hg => (hO.lt g hg).1)⟩
      case measure => simp [slen]; omega
end Go.Proofs.YtaphbkkklapdaaaDoor
