/-
  A state led through the first blocks of a byte string, in plain Lean.
-/
import Derived.Test.YtaphbkkklapdaaaDoorSpec
import Derived.Laws.CopyOwn
namespace Go.Proofs.YtaphbkkklapdaaaDoor
open Go
/-- the state behind the first k blocks of N bytes -/
def led {n : Nat} (f : St n → List (BitVec 8) → St n) (N : Nat) (s : St n) (l : List (BitVec 8)) : Nat → St n
  | 0 => s
  | k + 1 => f (led f N s l k) ((l.drop (N * k)).take N)
theorem led_append {n : Nat} (f : St n → List (BitVec 8) → St n) (N : Nat) (s : St n) (l p : List (BitVec 8)) (k : Nat) (h : N * k ≤ l.length) : led f N s (l ++ p) k = led f N s l k := by
  induction k with
  | zero => rfl
  | succ k ih =>
    have h1 : N * k + N ≤ l.length := by rw [Nat.mul_succ] at h; exact h
    rw [led, led, ih (by omega), List.drop_append_of_le_length (by omega), List.take_append_of_le_length (by simp; omega)]
/-- one block more, its bytes told -/
theorem led_succ {n : Nat} (f : St n → List (BitVec 8) → St n) (N : Nat) (s : St n) (l b : List (BitVec 8)) (k : Nat) (h : l.length = N * k) (hb : b.length = N) : led f N s (l ++ b) (k + 1) = f (led f N s l k) b := by
  rw [led, led_append f N s l b k (by omega), List.drop_append, List.drop_eq_nil_of_le (by omega), List.nil_append, h, Nat.sub_self, List.drop_zero, List.take_of_length_le (by omega)]
/-- a state and a rest of N bytes: to them the bytes m were written -/
structure Held {n : Nat} (f : St n → List (BitVec 8) → St n) (N : Nat) (s0 s : St n) (r m : List (BitVec 8)) : Prop where
  len : r.length = N
  state : s = led f N s0 m (m.length / N)
  rest : r.take (m.length % N) = m.drop (N * (m.length / N))
theorem Held.start {n : Nat} (f : St n → List (BitVec 8) → St n) (N : Nat) (s0 : St n) (r : List (BitVec 8)) (h : r.length = N) : Held f N s0 s0 r [] := ⟨h, by simp [led], by simp⟩
/-- less than a block -/
theorem Held.part {n N : Nat} {f : St n → List (BitVec 8) → St n} {s0 s : St n} {r m : List (BitVec 8)} (h : Held f N s0 s r m) (q : List (BitVec 8)) (k : Nat) (hk : m.length % N = k) (hq : k + q.length < N) :
    Held f N s0 s (splice r k q) (m ++ q) := by
  have hN : 0 < N := by omega
  have hd := Nat.div_add_mod m.length N
  have h1 : (m ++ q).length / N = m.length / N := by
    have hx : (m ++ q).length = N * (m.length / N) + (k + q.length) := by rw [List.length_append]; omega
    rw [hx, Nat.mul_add_div hN, Nat.div_eq_of_lt hq]; rfl
  have h2 : (m ++ q).length % N = k + q.length := by
    have hx : (m ++ q).length = N * (m.length / N) + (k + q.length) := by rw [List.length_append]; omega
    rw [hx, Nat.mul_add_mod, Nat.mod_eq_of_lt hq]
  refine ⟨by rw [length_splice _ _ _ (by rw [h.len]; omega)]; exact h.len, ?_, ?_⟩
  · rw [h1, led_append f N s0 m q _ (by omega)]; exact h.state
  · have hr := h.rest
    have hl := h.len
    rw [hk] at hr
    have hlk : (r.take k).length = k := by simp; omega
    rw [h1, h2, List.drop_append_of_le_length (by omega), ← hr, splice, List.take_append, hlk, List.take_of_length_le (by omega), show k + q.length - k = q.length by omega, List.take_left' rfl]
/-- a block is full -/
theorem Held.full {n N : Nat} {f : St n → List (BitVec 8) → St n} {s0 s : St n} {r m : List (BitVec 8)} (h : Held f N s0 s r m) (q : List (BitVec 8)) (k : Nat) (hk : m.length % N = k) (hq : k + q.length = N) (hN : 0 < N) :
    Held f N s0 (f s (splice r k q)) (splice r k q) (m ++ q) := by
  have hd := Nat.div_add_mod m.length N
  have hlen : (m ++ q).length = N * (m.length / N + 1) := by rw [List.length_append, Nat.mul_succ]; omega
  have h1 : (m ++ q).length / N = m.length / N + 1 := by rw [hlen, Nat.mul_div_cancel_left _ hN]
  have h2 : (m ++ q).length % N = 0 := by rw [hlen, Nat.mul_mod_right]
  have hr := h.rest
  have hl := h.len
  rw [hk] at hr
  have e : splice r k q = m.drop (N * (m.length / N)) ++ q := by
    rw [splice, hr, List.drop_eq_nil_of_le (as := r) (by omega), List.append_nil]
  refine ⟨by rw [length_splice _ _ _ (by omega)]; exact hl, ?_, ?_⟩
  · have e2 : ((m ++ q).drop (N * (m.length / N))).take N = splice r k q := by
      rw [List.drop_append_of_le_length (by omega), ← e, List.take_of_length_le (by rw [length_splice _ _ _ (by omega)]; omega)]
    rw [h1, led, led_append f N s0 m q _ (by omega), e2, ← h.state]
  · rw [h1, h2, List.take_zero, ← hlen, List.drop_length]
end Go.Proofs.YtaphbkkklapdaaaDoor
