/-
  Package bits at words of 64 bits: width, RotR, piece, LoadBE, each by its contract.
-/
import Derived.Test.YtghdininkolanaaDoorProg
import Derived.Test.YtghdininkolanaaDoorMem
import Derived.Test.YtghdininkolanaaDoorRegion
namespace Go.Proofs.YtghdininkolanaaDoor
open Go Go.RowKit Go.Proofs
theorem and63 (k : Nat) (h : k < 64) : (k % 18446744073709551616 &&& 63) = k := by
  rw [Nat.mod_eq_of_lt (by omega)]
  have := Nat.and_two_pow_sub_one_eq_mod k 6
  simp at this; rw [this]; omega
theorem rotr64_eq (x : BitVec 64) (k : Nat) (h : k < 64) : (x >>> (k % 18446744073709551616 &&& 63) ||| x <<< ((18446744073709551616 - (k % 18446744073709551616 &&& 63) + 64) % 18446744073709551616)) = x.rotateRight k := by
  rw [and63 k h, show (18446744073709551616 - k + 64) % 18446744073709551616 = 64 - k by omega]
  simp [BitVec.rotateRight, BitVec.rotateRightAux, Nat.mod_eq_of_lt h]
set_option maxRecDepth 100000 in
set_option maxHeartbeats 400000 in
theorem width64 (w : World) : Calls Tryd.prog 43 #[] w fun e w' => e = .returned (.int .i64 64) ∧ w = w' := by
  go_enter Tryd.func43, Tryd.ntmps43
  go_wp2
  go_loop [1, 2] (fun n x => ∃ k : Nat, k ≤ 64 ∧ n = .int .i64 k ∧ x = .int .u64 ((2 ^ (64 - k) - 1 : Nat) : Int)) (fun n _ => 64 - (intOf n).toNat)
  case atStart => exact ⟨0, by omega, rfl, rfl⟩
  case round =>
    obtain ⟨k, hk, rfl, rfl⟩ := hrel
    by_cases h : k = 64
    · subst h
      go_wp2
      go_ret
      exact ⟨rfl, rfl⟩
    · have hne : (((2 ^ (64 - k) - 1 : Nat) : Int) != 0) = true := by
        have : 1 < 2 ^ (64 - k) := Nat.one_lt_two_pow (by omega)
        simp; omega
      go_wp2
      go_round
      case rel =>
        refine ⟨k + 1, by omega, by go_num, ?_⟩
        have : 2 ^ (64 - k) = 2 * 2 ^ (64 - (k + 1)) := by rw [← Nat.pow_succ']; congr 1; omega
        rw [this]; congr 1; omega
      case measure => simp [intOf]; omega
set_option maxRecDepth 100000 in
set_option maxHeartbeats 400000 in
theorem rotr64 (w : World) (x : BitVec 64) (k : Nat) (hk : k < 64) : Calls Tryd.prog 65 #[U64 x, .int .i64 k] w fun e w' => e = .returned (U64 (x.rotateRight k)) ∧ w = w' := by
  go_enter Tryd.func65, Tryd.ntmps65
  go_wp2_with (first | (go_at_call 43; refine (width64 _).mono ?_; rintro e w' ⟨rfl, rfl⟩))
  go_ret
  exact ⟨ret_eq (congrArg U64 (rotr64_eq x k hk)), rfl⟩
set_option maxRecDepth 100000 in
set_option maxHeartbeats 400000 in
theorem piece64 (w : World) (b o n at_ : Nat) (a : Int) (ha : a = at_) (h1 : at_ + 8 ≤ n) (h2 : n ≤ 4096) : Calls Tryd.prog 67 #[.slice (some ⟨b, o, none⟩) n n, .int .i64 a] w fun e w' => e = .returned (.slice (some ⟨b, o + at_, none⟩) 8 (n - at_)) ∧ w = w' := by
  subst ha
  go_enter Tryd.func67, Tryd.ntmps67
  go_wp2_with (first | (go_at_call 43; refine (width64 _).mono ?_; rintro e w' ⟨rfl, rfl⟩))
  go_ret
  exact ⟨ret_eq (by simp), rfl⟩
set_option maxRecDepth 100000 in
set_option maxHeartbeats 400000 in
theorem loadBE64 (w : World) (b o n at_ : Nat) (a : Int) (ha : a = at_) (l : List (BitVec 8)) (hl : l.length = n) (hb : Bytes w b o l) (h1 : at_ + 8 ≤ n) (h2 : n ≤ 4096) :
    Calls Tryd.prog 63 #[.slice (some ⟨b, o, none⟩) n n, .int .i64 a] w fun e w' => e = .returned (.tuple #[U64 (be 64 ((l.drop at_).take 8)), .bool true]) ∧ w = w' := by
  subst ha
  have hb2 : Bytes w b (o + at_) ((l.drop at_).take 8) := (hb.drop at_).take 8
  obtain ⟨p, hp⟩ : ∃ p, p = (l.drop at_).take 8 := ⟨_, rfl⟩
  rw [← hp] at hb2 ⊢
  have hpl : p.length = 8 := by rw [hp]; simp; omega
  clear hp hb
  go_enter Tryd.func63, Tryd.ntmps63
  go_wp2_with (first | (go_at_call 67; refine (piece64 _ _ _ _ _ _ rfl h1 h2).mono ?_; rintro e w' ⟨rfl, rfl⟩))
  go_loop [6, 15] (fun x i => ∃ k : Nat, k ≤ 8 ∧ i = .int .i64 k ∧ x = U64 (be 64 (p.take k))) (fun _ i => 8 - (intOf i).toNat)
  case atStart => exact ⟨0, by omega, rfl, rfl⟩
  case round =>
    obtain ⟨k, hk, rfl, rfl⟩ := hrel
    by_cases h : k < 8
    · have hcell := hb2 k (by omega)
      have hs := Lib.hid (be_snoc 64 (p.take k) (p[k]'(by omega)))
      rw [← take_snoc' p k (by omega)] at hs
      go_wp2
      go_round
      case rel =>
        exact ⟨k + 1, by omega, by go_num, by rw [hs.out]⟩
      case measure => simp [intOf]; omega
    · obtain rfl : k = 8 := by omega
      go_wp2
      go_ret2
      have ht : p.take 8 = p := List.take_of_length_le (by omega)
      exact ⟨ret_eq (by show Value.tuple #[U64 (be 64 (p.take 8)), Value.bool true] = _; rw [ht]), rfl⟩
end Go.Proofs.YtghdininkolanaaDoor
