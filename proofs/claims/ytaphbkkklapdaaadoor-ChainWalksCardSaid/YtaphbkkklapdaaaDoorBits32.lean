/-
  Package bits at words of 32 bits: width, RotR, piece, LoadBE, each by its contract.
-/
import Derived.Test.YtaphbkkklapdaaaDoorProg
import Derived.Test.YtaphbkkklapdaaaDoorMem
import Derived.Test.YtaphbkkklapdaaaDoorRegion
namespace Go.Proofs.YtaphbkkklapdaaaDoor
open Go Go.RowKit Go.Proofs
theorem and31 (k : Nat) (h : k < 32) : (k % 18446744073709551616 &&& 31) = k := by
  rw [Nat.mod_eq_of_lt (by omega)]
  have := Nat.and_two_pow_sub_one_eq_mod k 5
  simp at this; rw [this]; omega
theorem rotr32_eq (x : BitVec 32) (k : Nat) (h : k < 32) : (x >>> (k % 18446744073709551616 &&& 31) ||| x <<< ((18446744073709551616 - (k % 18446744073709551616 &&& 31) + 32) % 18446744073709551616)) = x.rotateRight k := by
  rw [and31 k h, show (18446744073709551616 - k + 32) % 18446744073709551616 = 32 - k by omega]
  simp [BitVec.rotateRight, BitVec.rotateRightAux, Nat.mod_eq_of_lt h]
set_option maxRecDepth 100000 in
set_option maxHeartbeats 400000 in
theorem width32 (w : World) : Calls Tryd.prog 36 #[] w fun e w' => e = .returned (.int .i64 32) ∧ w = w' := by
  go_enter Tryd.func36, Tryd.ntmps36
  go_wp2
  go_loop [1, 2] (fun n x => ∃ k : Nat, k ≤ 32 ∧ n = .int .i64 k ∧ x = .int .u32 ((2 ^ (32 - k) - 1 : Nat) : Int)) (fun n _ => 32 - (intOf n).toNat)
  case atStart => exact ⟨0, by omega, rfl, rfl⟩
  case round =>
    obtain ⟨k, hk, rfl, rfl⟩ := hrel
    by_cases h : k = 32
    · subst h
      go_wp2
      go_ret
      exact ⟨rfl, rfl⟩
    · have hne : (((2 ^ (32 - k) - 1 : Nat) : Int) != 0) = true := by
        have : 1 < 2 ^ (32 - k) := Nat.one_lt_two_pow (by omega)
        simp; omega
      go_wp2
      go_round
      case rel =>
        refine ⟨k + 1, by omega, by go_num, ?_⟩
        have : 2 ^ (32 - k) = 2 * 2 ^ (32 - (k + 1)) := by rw [← Nat.pow_succ']; congr 1; omega
        rw [this]; congr 1; omega
      case measure => simp [intOf]; omega
set_option maxRecDepth 100000 in
set_option maxHeartbeats 400000 in
theorem rotr32 (w : World) (x : BitVec 32) (k : Nat) (hk : k < 32) : Calls Tryd.prog 42 #[U32 x, .int .i64 k] w fun e w' => e = .returned (U32 (x.rotateRight k)) ∧ w = w' := by
  go_enter Tryd.func42, Tryd.ntmps42
  go_wp2_with (first | (go_at_call 36; refine (width32 _).mono ?_; rintro e w' ⟨rfl, rfl⟩))
  go_ret
  exact ⟨ret_eq (congrArg U32 (rotr32_eq x k hk)), rfl⟩
set_option maxRecDepth 100000 in
set_option maxHeartbeats 400000 in
theorem piece32 (w : World) (b o n at_ : Nat) (a : Int) (ha : a = at_) (h1 : at_ + 4 ≤ n) (h2 : n ≤ 4096) : Calls Tryd.prog 46 #[.slice (some ⟨b, o, none⟩) n n, .int .i64 a] w fun e w' => e = .returned (.slice (some ⟨b, o + at_, none⟩) 4 (n - at_)) ∧ w = w' := by
  subst ha
  go_enter Tryd.func46, Tryd.ntmps46
  go_wp2_with (first | (go_at_call 36; refine (width32 _).mono ?_; rintro e w' ⟨rfl, rfl⟩))
  go_ret
  exact ⟨ret_eq (by simp), rfl⟩
set_option maxRecDepth 100000 in
set_option maxHeartbeats 400000 in
theorem loadBE32 (w : World) (b o n at_ : Nat) (a : Int) (ha : a = at_) (l : List (BitVec 8)) (hl : l.length = n) (hb : Bytes w b o l) (h1 : at_ + 4 ≤ n) (h2 : n ≤ 4096) :
    Calls Tryd.prog 40 #[.slice (some ⟨b, o, none⟩) n n, .int .i64 a] w fun e w' => e = .returned (.tuple #[U32 (be 32 ((l.drop at_).take 4)), .bool true]) ∧ w = w' := by
  subst ha
  have hb2 : Bytes w b (o + at_) ((l.drop at_).take 4) := (hb.drop at_).take 4
  obtain ⟨p, hp⟩ : ∃ p, p = (l.drop at_).take 4 := ⟨_, rfl⟩
  rw [← hp] at hb2 ⊢
  have hpl : p.length = 4 := by rw [hp]; simp; omega
  clear hp hb
  go_enter Tryd.func40, Tryd.ntmps40
  go_wp2_with (first | (go_at_call 46; refine (piece32 _ _ _ _ _ _ rfl h1 h2).mono ?_; rintro e w' ⟨rfl, rfl⟩))
  go_loop [6, 15] (fun x i => ∃ k : Nat, k ≤ 4 ∧ i = .int .i64 k ∧ x = U32 (be 32 (p.take k))) (fun _ i => 4 - (intOf i).toNat)
  case atStart => exact ⟨0, by omega, rfl, rfl⟩
  case round =>
    obtain ⟨k, hk, rfl, rfl⟩ := hrel
    by_cases h : k < 4
    · have hcell := hb2 k (by omega)
      have hs := Lib.hid (be_snoc 32 (p.take k) (p[k]'(by omega)))
      rw [← take_snoc' p k (by omega)] at hs
      go_wp2
      go_round
      case rel =>
        exact ⟨k + 1, by omega, by go_num, by rw [hs.out]⟩
      case measure => simp [intOf]; omega
    · obtain rfl : k = 4 := by omega
      go_wp2
      go_ret2
      have ht : p.take 4 = p := List.take_of_length_le (by omega)
      exact ⟨ret_eq (by show Value.tuple #[U32 (be 32 (p.take 4)), Value.bool true] = _; rw [ht]), rfl⟩
end Go.Proofs.YtaphbkkklapdaaaDoor
