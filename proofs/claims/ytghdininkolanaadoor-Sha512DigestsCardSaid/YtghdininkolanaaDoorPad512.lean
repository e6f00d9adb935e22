/-
  The document's padding for sha512: tell, Pad; and the program's own Pad: one list of bytes.
-/
import Derived.Test.YtghdininkolanaaDoorStore64
namespace Go.Proofs.YtghdininkolanaaDoor
open Go Go.RowKit Go.Proofs
theorem tell64_take (x : BitVec 64) (k : Nat) (h : k < 8) : (tell64 x).take (k + 1) = (tell64 x).take k ++ [(x >>> (56 - 8 * k)).setWidth 8] := by
  rw [take_snoc' _ k (by rw [tell64_length]; exact h), tell64_get x k h]
set_option maxRecDepth 100000 in
set_option maxHeartbeats 1600000 in
theorem reftell64 (w : World) (x : BitVec 64) : Calls Tryd.prog 34 #[U64 x] w fun e w' => ∃ v, e = .returned v ∧ OwnB w' w.heap.size v (tell64 x) ∧ Upd [] w w' := by
  go_enter Tryd.func34, Tryd.ntmps34
  go_wp2
  go_loopw [3, 4] (fun v i wr => ∃ k : Nat, k ≤ 8 ∧ i = .int .i64 k ∧ OwnB wr w.heap.size v ((tell64 x).take k) ∧ Upd [] w wr) (fun _ i _ => 8 - (intOf i).toNat)
  case atStart => exact ⟨0, by omega, rfl, OwnB.nil _ _, Upd.refl _ _⟩
  case round =>
    obtain ⟨k, hk, rfl, hO, hU⟩ := hrel
    by_cases h : k < 8
    · have hsh : (BitVec.ofInt 64 (56 - 8 * (k : Int))).toNat = 56 - 8 * k := by
        rw [BitVec.toNat_ofInt]; omega
      have hle := hU.size
      have hlen : ((tell64 x).take k).length ≤ 8 := by simp; omega
      have HO := Lib.hid hO
      clear hO
      go_wp2_with (first | (refine append_byte rfl _ _ rfl w.heap.size u3 _ rfl wr ((x >>> (56 - 8 * k)).setWidth 8) rfl HO.out rfl (by omega) hle ?_; intro v' w1 hO1 hO0 hU1 hB1))
      go_roundw
      case rel => exact ⟨k + 1, by omega, by go_num, by rw [tell64_take x k h]; exact hO1, hU.row hU1 (fun g hg => (HO.out.lt g hg).1)⟩
      case measure => simp [intOf]; omega
    · obtain rfl : k = 8 := by omega
      go_wp2
      go_ret
      exact ⟨_, rfl, by rw [List.take_of_length_le (by rw [tell64_length]; omega)] at hO; exact hO, hU⟩
/-- what stands behind a message of so many bytes -/
def noughts512 (x : BitVec 64) : Nat := (128 - (x.toNat + 17) % 128) % 128
def pad512 (x : BitVec 64) : List (BitVec 8) := [(128 : BitVec 8)] ++ List.replicate (noughts512 x) (0 : BitVec 8) ++ tell64 (x >>> 61) ++ tell64 (x <<< 3)
theorem pad512_length (x : BitVec 64) : (pad512 x).length = 17 + noughts512 x := by simp [pad512, tell64_length]; omega
theorem noughts512_lt (x : BitVec 64) : noughts512 x < 128 := by unfold noughts512; omega
set_option maxRecDepth 100000 in
set_option maxHeartbeats 1600000 in
theorem padof512 (w : World) (x : BitVec 64) : Calls Tryd.prog 30 #[U64 x] w fun e w' => ∃ v, e = .returned v ∧ OwnB w' w.heap.size v (pad512 x) ∧ Upd [] w w' := by
  have hz := noughts512_lt x
  have hr : IntKind.i64.wrap ((((x + BitVec.ofInt 64 17).toNat % 128 : Nat) : Int)) = (((x.toNat + 17) % 128 : Nat) : Int) := by
    rw [BitVec.toNat_add, IntWalk.i64_in _ (by omega)]
    show (((x.toNat + 17) % 2 ^ 64 % 128 : Nat) : Int) = _
    omega
  go_enter Tryd.func30, Tryd.ntmps30
  go_upto_region 2 with (fail)
  have hl2 : ((128 - ((x.toNat : Int) + 17) % 128) % 128 : Int) = ((noughts512 x : Nat) : Int) := by unfold noughts512; omega
  simp only [hl2]
  clear hr hl2
  obtain ⟨z, hzz⟩ : ∃ z, noughts512 x = z := ⟨_, rfl⟩
  rw [hzz] at hz ⊢
  have HZ := Lib.hid hzz
  clear hzz
  go_upto_region 5 with (first
    | (refine make_bytes rfl _ _ rfl w.heap.size 0 (17 + z) _ _ rfl rfl rfl (by omega) (by omega) (by omega) (Nat.le_refl _) ?_; intro w1 hO1 hU1)
    | (refine append_byte_room rfl _ _ rfl w.heap.size w.heap.size 0 (17 + z) [] rfl w1 128 rfl hO1 rfl (by omega) ?_; intro w2 hO2 hU2)
    | (refine append_zeros rfl _ _ rfl w.heap.size w.heap.size (0 + 1) (17 + z) z _ rfl _ rfl rfl hO2 (by omega) (by omega) ?_; intro w3 hO3 hU3))
  have hu3 : Upd [] w w3 := (hU1.trans' hU2 (by simp)).trans' hU3 (by simp)
  have hO3' : OwnB w3 w.heap.size (.slice (some ⟨w.heap.size, 0, none⟩) (1 + z) (17 + z)) ((128 : BitVec 8) :: List.replicate z 0) := by
    rw [show 1 + z = 0 + 1 + z by omega]; exact hO3
  clear hO1 hO2 hO3 hU1 hU2 hU3
  have hs3 := hu3.size
  go_upto_region 6 with (first
    | (go_at_call 31; refine (storeBE64 _ _).mono ?_; rintro e w4 ⟨v4, rfl, hO4, hU4⟩; obtain ⟨g4, c4, rfl, _, _, _, _⟩ := hO4.at (by rw [tell64_length]; omega); rw [tell64_length])
    | (refine append_bytes rfl _ _ rfl w.heap.size (.slice (some ⟨w.heap.size, 0, none⟩) (1 + z) (17 + z)) _ rfl (hO3'.upd0 hU4) g4 0 8 _ (tell64 (x >>> 61)) rfl (tell64_length _) hO4.bytes (by simp; omega) (Nat.le_trans hs3 hU4.size) ?_; intro v5 w5 hO5 _ hU5 _))
  have hu5 : Upd [] w w5 := (hu3.trans hU4).row hU5 (fun g hg => by simp [Value.ownBlock] at hg; omega)
  have hl5 : (((128 : BitVec 8) :: List.replicate z 0) ++ tell64 (x >>> 61)).length ≤ 200 := by simp [tell64_length]; omega
  have hs5 := hu5.size
  clear hU4 hO4 hU5 hO3' hs3
  go_wp2_with (first
    | (go_at_call 31; refine (storeBE64 _ _).mono ?_; rintro e w6 ⟨v6, rfl, hO6, hU6⟩; obtain ⟨g6, c6, rfl, _, _, _, _⟩ := hO6.at (by rw [tell64_length]; omega); rw [tell64_length])
    | (refine append_bytes rfl _ _ rfl w.heap.size v5 _ rfl (hO5.upd0 hU6) g6 0 8 _ (tell64 (x <<< 3)) rfl (tell64_length _) hO6.bytes (by omega) (Nat.le_trans hs5 hU6.size) ?_; intro v7 w7 hO7 _ hU7 _))
  go_ret
  refine ⟨_, rfl, ?_, (hu5.trans hU6).row hU7 (fun g hg => (hO5.lt g hg).1)⟩
  rw [show pad512 x = ((128 : BitVec 8) :: List.replicate (noughts512 x) 0) ++ tell64 (x >>> 61) ++ tell64 (x <<< 3) from rfl, HZ.out]
  exact hO7
set_option maxRecDepth 100000 in
set_option maxHeartbeats 1600000 in
theorem refpad512 (w : World) (x : BitVec 64) : Calls Tryd.prog 32 #[U64 x] w fun e w' => ∃ v, e = .returned v ∧ OwnB w' w.heap.size v (pad512 x) ∧ Upd [] w w' := by
  have hz := noughts512_lt x
  have hZ : ∀ k : Nat, k ≤ noughts512 x → ((x.toNat % 128 + (k + 1) + 16) % 128 = 0 ↔ k = noughts512 x) := fun k hk => by unfold noughts512 at hk ⊢; omega
  have hr : (BitVec.ofInt 64 128) = 128#64 := rfl
  obtain ⟨z, hzz⟩ : ∃ z, noughts512 x = z := ⟨_, rfl⟩
  rw [hzz] at hz hZ
  have HZ := Lib.hid hzz
  have hxm : x.toNat % 128 < 128 := Nat.mod_lt _ (by omega)
  clear hzz
  go_enter Tryd.func32, Tryd.ntmps32
  go_upto_region 3 with (fail)
  have hrow : OwnB (w.alloc (.cells #[Value.int IntKind.u8 128] 5)) w.heap.size (.slice (some ⟨w.heap.size, 0, none⟩) 1 1) [128] :=
    ⟨rfl, .inr ⟨w.heap.size, 1, #[Value.int IntKind.u8 128], rfl, Nat.le_refl _, hget_new rfl, by simp, by simp [maxLen], rfl, rfl⟩⟩
  have hu : Upd [] w (w.alloc (.cells #[Value.int IntKind.u8 128] 5)) := (Upd.refl _ w).alloc _
  generalize hw1 : w.alloc (.cells #[Value.int IntKind.u8 128] 5) = w1
  rw [hw1] at hrow hu
  clear hw1
  obtain ⟨r, hr'⟩ : ∃ r, x.toNat % 128 = r := ⟨_, rfl⟩
  have hri : ((x.toNat : Int) % 128) = (r : Int) := by omega
  rw [hr'] at hZ hxm
  simp only [hri]
  clear hri hr hr'
  have HZ1 := Lib.hid hZ
  clear hZ
  go_loopw [3] (fun v wr => ∃ k : Nat, k ≤ z ∧ OwnB wr w.heap.size v ((128 : BitVec 8) :: List.replicate k 0) ∧ Upd [] w wr) (fun v _ => z + 1 - slen v)
  case atStart => exact ⟨0, by omega, hrow, hu⟩
  case round =>
    clear hrow hu
    obtain ⟨k, hk, hO, hU⟩ := hrel
    have hs := hU.size
    obtain ⟨a, c, ev⟩ := hO.isSlice
    rw [List.length_cons, List.length_replicate] at ev
    subst ev
    have hlen : ((128 : BitVec 8) :: List.replicate k 0).length ≤ 200 := by simp; omega
    by_cases h : k = z
    · subst h
      have hc : ((r : Int) + (k + 1) + 16) % 128 = 0 := by have := (HZ1.out k hk).2 rfl; omega
      have hq : x / 2305843009213693952#64 = x >>> 61 := by
        apply BitVec.eq_of_toNat_eq
        rw [BitVec.toNat_udiv, BitVec.toNat_ushiftRight, Nat.shiftRight_eq_div_pow]; rfl
      have hm : x * 8#64 = x <<< 3 := by
        apply BitVec.eq_of_toNat_eq
        rw [BitVec.toNat_mul, BitVec.toNat_shiftLeft, Nat.shiftLeft_eq]; rfl
      go_upto_region 6 with (first
        | (go_at_call 34; refine (reftell64 _ _).mono ?_; rintro e w4 ⟨v4, rfl, hO4, hU4⟩; obtain ⟨g4, c4, rfl, _, _, _, _⟩ := hO4.at (by rw [tell64_length]; omega); rw [tell64_length])
        | (refine append_bytes rfl _ _ rfl w.heap.size (.slice a (k + 1) c) _ rfl (hO.upd0 hU4) g4 0 8 _ (tell64 (x >>> 61)) rfl (tell64_length _) hO4.bytes (by simp; omega) (Nat.le_trans hs hU4.size) ?_; intro v5 w5 hO5 _ hU5 _))
      have hu5 : Upd [] w w5 := (hU.trans hU4).row hU5 (fun g hg => (hO.lt g hg).1)
      have hl5 : (((128 : BitVec 8) :: List.replicate k 0) ++ tell64 (x >>> 61)).length ≤ 200 := by simp [tell64_length]; omega
      have hs5 := hu5.size
      clear hU4 hO4 hU5 hO hs
      go_wp2_with (first
        | (go_at_call 34; refine (reftell64 _ _).mono ?_; rintro e w6 ⟨v6, rfl, hO6, hU6⟩; obtain ⟨g6, c6, rfl, _, _, _, _⟩ := hO6.at (by rw [tell64_length]; omega); rw [tell64_length])
        | (refine append_bytes rfl _ _ rfl w.heap.size v5 _ rfl (hO5.upd0 hU6) g6 0 8 _ (tell64 (x <<< 3)) rfl (tell64_length _) hO6.bytes (by omega) (Nat.le_trans hs5 hU6.size) ?_; intro v7 w7 hO7 _ hU7 _))
      go_ret
      refine ⟨_, rfl, ?_, (hu5.trans hU6).row hU7 (fun g hg => (hO5.lt g hg).1)⟩
      rw [show pad512 x = ((128 : BitVec 8) :: List.replicate (noughts512 x) 0) ++ tell64 (x >>> 61) ++ tell64 (x <<< 3) from rfl, HZ.out]
      exact hO7
    · have hc : ¬ ((r : Int) + (k + 1) + 16) % 128 = 0 := by
        intro e; exact h ((HZ1.out k hk).1 (by omega))
      go_wp2_with (first | (refine append_byte rfl _ _ rfl w.heap.size (.slice a (k + 1) c) _ rfl wr 0 rfl hO rfl (by omega) hs ?_; intro v2 w2 hO2 _ hU2 _))
      have e2 : ((128 : BitVec 8) :: List.replicate k 0) ++ [0] = 128 :: List.replicate (k + 1) 0 := by
        rw [List.replicate_succ']; rfl
      rw [e2] at hO2
      obtain ⟨a2, c2, ev2⟩ := hO2.isSlice
      subst ev2
      go_roundw
      case rel => exact ⟨k + 1, by omega, hO2, hU.row hU2 (fun g hg => (hO.lt g hg).1)⟩
      case measure => simp [slen]; omega
end Go.Proofs.YtghdininkolanaaDoor
