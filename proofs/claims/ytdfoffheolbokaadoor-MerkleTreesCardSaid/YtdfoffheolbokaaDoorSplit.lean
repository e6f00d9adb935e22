/-
  split: the greatest power of two below a number (with math/bits.Len); the document's split, and the law's half.
-/
import Derived.Test.YtdfoffheolbokaaDoorMerkle
import Derived.IntWalk
import Derived.Outline
import Derived.Lib.Hide
namespace Go.Proofs.YtdfoffheolbokaaDoor
open Go Go.RowKit Go.Proofs
def lenOf (x : Nat) : Nat := if x = 0 then 0 else Nat.log2 x + 1
theorem lenOf_le {x : Nat} (h : x < 256) : lenOf x ≤ 8 := by
  unfold lenOf
  split
  · omega
  · rename_i h0
    have := (Nat.log2_lt h0 (k := 8)).2 (by omega)
    omega
theorem tab_len1 (arr : ByteArray) (hk : ((List.range 256).all fun i => decide (i < arr.size) && ((arr.get! i).toNat == lenOf i)) = true) (x : Nat) (hx : x < arr.size) (h : x < 256) : wrap64 ((arr[x]'hx).toNat : Int) = lenOf x := by
  have h1 := List.all_eq_true.1 hk x (List.mem_range.2 h)
  simp only [Bool.and_eq_true, beq_iff_eq] at h1
  have h2 : (arr[x]'hx).toNat = lenOf x := by
    rw [← h1.2]
    have : arr.get! x = arr[x]'hx := by
      show arr.data[x]! = arr.data[x]
      rw [getElem!_pos]
    rw [this]
  rw [h2]
  have h3 := lenOf_le h
  unfold wrap64
  omega
theorem tab_len (arr : ByteArray) (hk : ((List.range 256).all fun i => decide (i < arr.size) && ((arr.get! i).toNat == lenOf i)) = true) (x : Nat) (hx : x < arr.size) (h : x < 256) : wrap64 (wrap64 ((arr[x]'hx).toNat : Int)) = lenOf x := by
  rw [tab_len1 arr hk x hx h]
  have h3 := lenOf_le h
  unfold wrap64
  omega
set_option maxRecDepth 100000 in
set_option maxHeartbeats 1600000 in
theorem len64_ (w : World) (x : Nat) (hx : x < 65536) : Calls Tryd.prog 68 #[.int .u64 x] w fun e w' => e = .returned (.int .i64 (lenOf x)) ∧ w = w' := by
  have hx1 : (x : Int) < 65536 := by omega
  have hx2 : ¬ ((x : Int) ≥ 4294967296) := by omega
  have hx3 : ¬ ((x : Int) ≥ 65536) := by omega
  by_cases h : x < 256
  · have h1 : ¬ ((x : Int) ≥ 256) := by omega
    go_enter Tryd.func68, Tryd.ntmps68
    go_wp2_with (fail)
    go_ret
    refine ⟨ret_eq (congrArg (Value.int .i64) ?_), rfl⟩
    refine tab_len _ ?_ x _ h
    kernel_rfl
  · have h1 : ((x : Int) ≥ 256) := by omega
    obtain ⟨q, hq⟩ : ∃ q, x / 256 = q := ⟨_, rfl⟩
    have hq2 : (x : Int) / 256 = (q : Int) := by omega
    have hq3 : q < 256 := by omega
    have hl : lenOf x = 8 + lenOf q := by
      have hq0 : q ≠ 0 := by omega
      have e := (Nat.log2_eq_iff (n := x) (k := 8 + Nat.log2 q) (by omega)).2 (by
        have a1 := Nat.log2_self_le hq0
        have a2 := (Nat.lt_log2_self : q < 2 ^ (Nat.log2 q + 1))
        rw [show 2 ^ (8 + Nat.log2 q) = 256 * 2 ^ Nat.log2 q by rw [Nat.pow_add], show 2 ^ (8 + Nat.log2 q + 1) = 256 * 2 ^ (Nat.log2 q + 1) by rw [Nat.add_assoc, Nat.pow_add]]
        omega)
      unfold lenOf
      rw [if_neg (by omega), if_neg hq0, e]; omega
    rw [hl]
    clear hq
    go_enter Tryd.func68, Tryd.ntmps68
    go_upto_region 10 with (fail)
    clear hq2 h1 h hx1 hx2 hx3 hx hl
    generalize h8 : (8 : Int) = k
    have H8 := Lib.hid h8
    clear h8
    go_wp2_with (fail)
    go_ret
    refine ⟨ret_eq (congrArg (Value.int .i64) ?_), rfl⟩
    refine Eq.trans (congrArg (fun z => wrap64 (k + z)) (tab_len1 _ ?_ q _ hq3)) ?_
    · kernel_rfl
    · rw [← H8.out]
      have := lenOf_le hq3
      show wrap64 (8 + (lenOf q : Int)) = _
      unfold wrap64
      omega
set_option maxRecDepth 100000 in
set_option maxHeartbeats 1600000 in
theorem len_ (w : World) (x : Nat) (hx : x < 65536) : Calls Tryd.prog 53 #[.int .u64 x] w fun e w' => e = .returned (.int .i64 (lenOf x)) ∧ w = w' := by
  have HL := Lib.hid (len64_ w x hx)
  obtain ⟨k, hk⟩ : ∃ k, lenOf x = k := ⟨_, rfl⟩
  rw [hk] at HL ⊢
  clear hk
  go_enter Tryd.func53, Tryd.ntmps53
  go_wp2_with (fail)
  with_reducible refine HL.out.mono ?_
  rintro e w2 ⟨rfl, rfl⟩
  go_wp2_with (fail)
  go_ret
  exact ⟨rfl, rfl⟩
set_option maxRecDepth 100000 in
set_option maxHeartbeats 1600000 in
theorem split_ (w : World) (n : Nat) (h1 : 1 < n) (h2 : n ≤ 65536) : Calls Tryd.prog 37 #[.int .i64 n] w fun e w' => e = .returned (.int .i64 (halfN n)) ∧ w = w' := by
  obtain ⟨m, rfl⟩ : ∃ m, n = m + 1 := ⟨n - 1, by omega⟩
  have hm : m < 65536 := by omega
  have hl1 : 0 < lenOf m := by unfold lenOf; rw [if_neg (by omega)]; omega
  have hl2 : lenOf m ≤ 16 := by
    unfold lenOf
    rw [if_neg (by omega)]
    have := (Nat.log2_lt (n := m) (k := 16) (by omega)).2 (by omega)
    omega
  obtain ⟨k, hk⟩ : ∃ k, lenOf m = k + 1 := ⟨lenOf m - 1, by omega⟩
  have hh : halfN (m + 1) = 2 ^ k := by
    unfold halfN
    unfold lenOf at hk
    rw [if_neg (by omega)] at hk
    rw [Nat.add_sub_cancel, show Nat.log2 m = k by omega]
  rw [hk] at hl1 hl2
  have HH := Lib.hid hh
  have HK := Lib.hid hk
  clear hk hh
  go_enter Tryd.func37, Tryd.ntmps37
  go_wp2_with (fail)
  have hL := len_ w m hm
  rw [HK.out] at hL
  rw [show U64 (BitVec.ofNat 64 m) = .int .u64 m by unfold U64; rw [BitVec.toNat_ofNat, Nat.mod_eq_of_lt (by omega)]]
  with_reducible refine hL.mono ?_
  rintro e w2 ⟨rfl, rfl⟩
  clear hL
  go_wp2_with (fail)
  go_ret
  refine ⟨ret_eq (congrArg (Value.int .i64) ?_), rfl⟩
  rw [HH.out]
  have hk16 : 2 ^ k ≤ 2 ^ 15 := Nat.pow_le_pow_right (by omega) (by omega)
  have e : ((2 ^ k : Nat) : Int) = 2 ^ k := by simp
  rw [← e]
  obtain ⟨p, hp⟩ : ∃ p, 2 ^ k = p := ⟨_, rfl⟩
  rw [hp] at hk16 ⊢
  unfold wrap64
  omega
/-- a loop that doubles: the greatest power of two below n -/
theorem half_end (n c : Nat) (h1 : 2 ^ c < n) (h2 : ¬ 2 * 2 ^ c < n) : 2 ^ c = halfN n := (halfN_eq h1 (by omega)).symm
set_option maxRecDepth 100000 in
set_option maxHeartbeats 1600000 in
theorem half_ (w : World) (n : Nat) (h1 : 1 < n) (h2 : n ≤ 1000000) : Calls Tryd.prog 19 #[.int .i64 n] w fun e w' => e = .returned (.int .i64 (halfN n)) ∧ w = w' := by
  go_enter Tryd.func19, Tryd.ntmps19
  go_wp2_with (fail)
  go_loop [3] (fun x => ∃ c p : Nat, 2 ^ c = p ∧ p < n ∧ x = .int .i64 p) (fun x => n - (intOf x).toNat)
  case atStart => exact ⟨0, 1, rfl, by omega, rfl⟩
  case round =>
    obtain ⟨c, p, hc, hp, rfl⟩ := hrel
    have HC := Lib.hid hc
    have hp0 : 0 < p := by rw [← hc]; exact Nat.two_pow_pos c
    clear hc
    by_cases h : 2 * p < n
    · have h' : 2 * (p : Int) < (n : Int) := by omega
      go_wp2_with (fail)
      go_round
      case rel => exact ⟨c + 1, 2 * p, by rw [Nat.pow_succ, HC.out, Nat.mul_comm], h, by go_num⟩
      case measure => simp [intOf]; omega
    · have h' : ¬ (2 * (p : Int) < (n : Int)) := by omega
      go_wp2_with (fail)
      go_ret
      refine ⟨ret_eq ?_, rfl⟩
      rw [← HC.out, half_end n c (by rw [HC.out]; omega) (by rw [HC.out]; exact h)]
      rfl
set_option maxRecDepth 100000 in
set_option maxHeartbeats 1600000 in
theorem refsplit_ (w : World) (n : Nat) (h1 : 1 < n) (h2 : n ≤ 1000000) : Calls Tryd.prog 47 #[.int .i64 n] w fun e w' => e = .returned (.int .i64 (halfN n)) ∧ w = w' := by
  go_enter Tryd.func47, Tryd.ntmps47
  go_wp2_with (fail)
  go_loop [3] (fun x => ∃ c p : Nat, 2 ^ c = p ∧ p < n ∧ x = .int .i64 p) (fun x => n - (intOf x).toNat)
  case atStart => exact ⟨0, 1, rfl, by omega, rfl⟩
  case round =>
    obtain ⟨c, p, hc, hp, rfl⟩ := hrel
    have HC := Lib.hid hc
    have hp0 : 0 < p := by rw [← hc]; exact Nat.two_pow_pos c
    clear hc
    by_cases h : 2 * p < n
    · have h' : 2 * (p : Int) < (n : Int) := by omega
      go_wp2_with (fail)
      go_round
      case rel => exact ⟨c + 1, 2 * p, by rw [Nat.pow_succ, HC.out, Nat.mul_comm], h, by go_num⟩
      case measure => simp [intOf]; omega
    · have h' : ¬ (2 * (p : Int) < (n : Int)) := by omega
      go_wp2_with (fail)
      go_ret
      refine ⟨ret_eq ?_, rfl⟩
      rw [← HC.out, half_end n c (by rw [HC.out]; omega) (by rw [HC.out]; exact h)]
      rfl
end Go.Proofs.YtdfoffheolbokaaDoor
