/-
  Package bits at words of 64 bits: width, RotR, piece, LoadBE, each by its contract.
-/
import Derived.Test.YtaphbkkklapdaaaDoorProg
import Derived.Test.YtaphbkkklapdaaaDoorMem
import Derived.Test.YtaphbkkklapdaaaDoorRegion
namespace Go.Proofs.YtaphbkkklapdaaaDoor
open Go Go.RowKit Go.Proofs
theorem and63 (k : Nat) (h : k < 64) : (k % 18446744073709551616 &&& 63) = k := by
  rw [Nat.mod_eq_of_lt (by omega)]
  have := Nat.and_two_pow_sub_one_eq_mod k 6
  simp at this; rw [this]; omega
theorem rotr64_eq (x : BitVec 64) (k : Nat) (h : k < 64) : (x >>> (k % 18446744073709551616 &&& 63) ||| x <<< ((18446744073709551616 - (k % 18446744073709551616 &&& 63) + 64) % 18446744073709551616)) = x.rotateRight k := by
  rw [and63 k h, show (18446744073709551616 - k + 64) % 18446744073709551616 = 64 - k by omega]
  simp [BitVec.rotateRight, BitVec.rotateRightAux, Nat.mod_eq_of_lt h]
set_option maxRecDepth 100000 in
set_option maxHeartbeats 400000 in
theorem width64 (w : World) : Calls Tryd.prog 43 #[] w fun e w' => e = .returned (.int .i64 64) ∧ w = w' := by
  go_enter Tryd.func43, Tryd.ntmps43
  go_wp2
  go_loop [1, 2] (fun n x => ∃ k : Nat, k ≤ 64 ∧ n = .int .i64 k ∧ x = .int .u64 ((2 ^ (64 - k) - 1 : Nat) : Int)) (fun n _ => 64 - (intOf n).toNat)
  case atStart => exact ⟨0, by omega, rfl, rfl⟩
  case round =>
    obtain ⟨k, hk, rfl, rfl⟩ := hrel
    by_cases h : k = 64
    · subst h
      go_wp2
      go_ret
      exact ⟨rfl, rfl⟩
    · have hne : (((2 ^ (64 - k) - 1 : Nat) : Int) != 0) = true := by
        have : 1 < 2 ^ (64 - k) := Nat.one_lt_two_pow (by omega)
        simp; omega
      go_wp2
      go_round
      case rel =>
        refine ⟨k + 1, by omega, by go_num, ?_⟩
        have : 2 ^ (64 - k) = 2 * 2 ^ (64 - (k + 1)) := by rw [← Nat.pow_succ']; congr 1; omega
        rw [this]; congr 1; omega
      case measure => simp [intOf]; omega
end Go.Proofs.YtaphbkkklapdaaaDoor
