/-
  Plain laws on words and bytes: what a word of bytes answers byte by byte; how the words of a schedule are told.
-/
import Derived.Test.YtghdininkolanaaDoorSpec
namespace Go.Proofs.YtghdininkolanaaDoor
open Go
theorem rev_ind {α : Type} {p : List α → Prop} (h0 : p []) (h1 : ∀ l a, p l → p (l ++ [a])) (l : List α) : p l := by
  rw [← List.reverse_reverse l]
  induction l.reverse with
  | nil => exact h0
  | cons a r ih => rw [List.reverse_cons]; exact h1 _ _ ih
theorem be_snoc_nat (n : Nat) (l : List (BitVec 8)) (c : BitVec 8) : (be n (l ++ [c])).toNat = ((be n l).toNat * 256 + c.toNat) % 2 ^ n := by
  have e : be n l <<< 8 ||| c.setWidth n = be n l * BitVec.ofNat n 256 + c.setWidth n := by
    have e1 : be n l * BitVec.ofNat n 256 = be n l <<< 8 := by
      apply BitVec.eq_of_toNat_eq
      rw [BitVec.toNat_mul, BitVec.toNat_shiftLeft, Nat.shiftLeft_eq]
      show (be n l).toNat * (256 % 2 ^ n) % 2 ^ n = _
      rw [Nat.mul_mod_mod]
    rw [e1]
    symm
    apply BitVec.add_eq_or_of_and_eq_zero
    ext i hi
    simp only [BitVec.getElem_and, BitVec.getElem_shiftLeft, BitVec.getElem_setWidth, BitVec.getElem_zero]
    by_cases h : i < 8
    · simp [h]
    · simp [BitVec.getLsbD_of_ge c i (by omega)]
  rw [be_snoc, e, BitVec.toNat_add, BitVec.toNat_mul, BitVec.toNat_setWidth]
  show ((be n l).toNat * (256 % 2 ^ n) % 2 ^ n + c.toNat % 2 ^ n) % 2 ^ n = _
  rw [Nat.mul_mod_mod, ← Nat.add_mod]
theorem be_lt (n : Nat) : ∀ l : List (BitVec 8), 8 * l.length ≤ n → (be n l).toNat < 2 ^ (8 * l.length) :=
  rev_ind (fun _ => by simp [be]) fun l c ih h => by
    simp only [List.length_append, List.length_cons, List.length_nil] at h ⊢
    have h1 := ih (by omega)
    have h2 := c.isLt
    have e : 2 ^ (8 * (l.length + (0 + 1))) = 2 ^ (8 * l.length) * 256 := by rw [Nat.mul_add, Nat.pow_add]
    rw [be_snoc_nat]
    exact Nat.lt_of_le_of_lt (Nat.mod_le _ _) (by omega)
theorem be_snoc_nat' (n : Nat) (l : List (BitVec 8)) (c : BitVec 8) (h : 8 * l.length + 8 ≤ n) : (be n (l ++ [c])).toNat = (be n l).toNat * 256 + c.toNat := by
  rw [be_snoc_nat]
  apply Nat.mod_eq_of_lt
  have h1 := be_lt n l (by omega)
  have h2 := c.isLt
  have e : 2 ^ (8 * l.length + 8) = 2 ^ (8 * l.length) * 256 := by rw [Nat.pow_add]
  exact Nat.lt_of_lt_of_le (by omega) (Nat.pow_le_pow_right (by omega) h)
theorem be_shr (n : Nat) (l : List (BitVec 8)) (c : BitVec 8) (h : 8 * l.length + 8 ≤ n) : be n (l ++ [c]) >>> 8 = be n l := by
  apply BitVec.eq_of_toNat_eq
  rw [BitVec.toNat_ushiftRight, be_snoc_nat' n l c h, Nat.shiftRight_eq_div_pow]
  have := c.isLt
  omega
theorem be_low (n : Nat) (l : List (BitVec 8)) (c : BitVec 8) (h : 8 * l.length + 8 ≤ n) : (be n (l ++ [c])).setWidth 8 = c := by
  apply BitVec.eq_of_toNat_eq
  rw [BitVec.toNat_setWidth, be_snoc_nat' n l c h]
  have := c.isLt
  omega
/-- the bytes of a word of bytes, from the lowest on -/
theorem be_byte (n : Nat) : ∀ l : List (BitVec 8), 8 * l.length ≤ n → ∀ j (h : j < l.length), (be n l >>> (8 * j)).setWidth 8 = l[l.length - 1 - j] :=
  rev_ind (fun _ j h => absurd h (by simp)) fun l c ih h j hj => by
    simp only [List.length_append, List.length_cons, List.length_nil] at h hj
    cases j with
    | zero => simp only [Nat.mul_zero, BitVec.ushiftRight_zero]; rw [be_low n l c (by omega)]; simp
    | succ j =>
      rw [show 8 * (j + 1) = 8 + 8 * j by omega, BitVec.shiftRight_add, be_shr n l c (by omega), ih (by omega) j (by omega)]
      rw [List.getElem_append_left (by simp; omega)]
      congr 1
      simp; omega
theorem words64_len (l : List (BitVec 8)) (t : Nat) : (words64 l t).length = t := by
  induction t with
  | zero => rfl
  | succ t ih => simp [words64, ih]
theorem words64_get (l : List (BitVec 8)) (n t : Nat) (h : t < n) : (words64 l n).getD t 0 = if t < 16 then be 64 ((l.drop (8 * t)).take 8) else nextW64 (words64 l t) t := by
  induction n with
  | zero => omega
  | succ n ih =>
    rw [words64, List.getD_eq_getElem?_getD]
    by_cases e : t = n
    · subst e
      rw [List.getElem?_append_right (by rw [words64_len]; omega), words64_len]
      simp
    · rw [List.getElem?_append_left (by rw [words64_len]; omega), ← List.getD_eq_getElem?_getD, ih (by omega)]
theorem words64_pre (l : List (BitVec 8)) (n m t : Nat) (h : t < n) (h' : t < m) : (words64 l n).getD t 0 = (words64 l m).getD t 0 := by
  rw [words64_get l n t h, words64_get l m t h']
theorem nextW64_pre (l : List (BitVec 8)) (n t : Nat) (h : t < n) (h16 : 16 ≤ t) : nextW64 (words64 l t) t = nextW64 (words64 l n) t := by
  unfold nextW64
  rw [words64_pre l t n (t - 2) (by omega) (by omega), words64_pre l t n (t - 7) (by omega) (by omega), words64_pre l t n (t - 15) (by omega) (by omega), words64_pre l t n (t - 16) (by omega) (by omega)]
/-- the words of a schedule tell its block's bytes -/
theorem words64_tell (l : List (BitVec 8)) (hl : l.length = 128) (i : Nat) (h : i < 128) : ((words64 l 80).getD (i / 8) 0 >>> (56 - 8 * (i % 8))).setWidth 8 = l.getD i 0 := by
  rw [words64_get l 80 _ (by omega), if_pos (by omega)]
  have h8 : ((l.drop (8 * (i / 8))).take 8).length = 8 := by simp; omega
  have := be_byte 64 ((l.drop (8 * (i / 8))).take 8) (by omega) (7 - i % 8) (by omega)
  rw [show 8 * (7 - i % 8) = 56 - 8 * (i % 8) by omega] at this
  rw [this]
  have hi : i = 8 * (i / 8) + (((l.drop (8 * (i / 8))).take 8).length - 1 - (7 - i % 8)) := by omega
  rw [List.getElem_take, List.getElem_drop, List.getD_eq_getElem?_getD, List.getElem?_eq_getElem (by omega)]
  simp only [Option.getD_some]
  congr 1
  omega
/-- each later word of a schedule, by the words ahead of it -/
theorem words64_next (l : List (BitVec 8)) (t : Nat) (h : t < 80) (h16 : 16 ≤ t) : (words64 l 80).getD t 0 =
    bend ((words64 l 80).getD (t - 2) 0) 19 61 6 + (words64 l 80).getD (t - 7) 0 + bend ((words64 l 80).getD (t - 15) 0) 1 8 7 + (words64 l 80).getD (t - 16) 0 := by
  rw [words64_get l 80 t h, if_neg (by omega), nextW64_pre l 80 t h h16]; rfl
theorem turned64_eq (x : BitVec 64) (k : Nat) (h : k < 64) : x >>> k ||| x <<< (64 - k) = x.rotateRight k := by
  simp [BitVec.rotateRight, BitVec.rotateRightAux, Nat.mod_eq_of_lt h]
end Go.Proofs.YtghdininkolanaaDoor
