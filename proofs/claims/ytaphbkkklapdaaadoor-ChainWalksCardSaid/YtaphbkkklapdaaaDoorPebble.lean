/-
  The pebbles of a walker, in plain Lean: the sizes of the pending parts, the nearest on top.
-/
namespace Go.Proofs.YtaphbkkklapdaaaDoor
def lgN (n : Nat) : Nat := if h : n ≤ 1 then 0 else lgN ((n + 1) / 2) + 1
termination_by n
decreasing_by omega
theorem lgN_small {n : Nat} (h : n ≤ 1) : lgN n = 0 := by rw [lgN]; simp [h]
theorem lgN_big {n : Nat} (h : 2 ≤ n) : lgN n = lgN (n - n / 2) + 1 := by
  rw [lgN, dif_neg (by omega), show (n + 1) / 2 = n - n / 2 by omega]
theorem lgN_mono : ∀ (b a : Nat), a ≤ b → lgN a ≤ lgN b := by
  intro b
  induction b using Nat.strongRecOn with
  | _ b ih =>
    intro a h
    by_cases h1 : a ≤ 1
    · rw [lgN_small h1]; omega
    · rw [lgN_big (n := a) (by omega), lgN_big (n := b) (by omega)]
      have := ih (b - b / 2) (by omega) (a - a / 2) (by omega)
      omega
theorem le_pow_lgN : ∀ (n : Nat), n ≤ 2 ^ lgN n := by
  intro n
  induction n using Nat.strongRecOn with
  | _ n ih =>
    by_cases h : n ≤ 1
    · rw [lgN_small h]; simpa using h
    · rw [lgN_big (by omega), Nat.pow_succ]
      have := ih (n - n / 2) (by omega)
      omega
theorem pow_lgN_lt : ∀ (n : Nat), lgN n = 0 ∨ 2 ^ (lgN n - 1) < n := by
  intro n
  induction n using Nat.strongRecOn with
  | _ n ih =>
    by_cases h : n ≤ 1
    · exact .inl (lgN_small h)
    · right
      rw [lgN_big (by omega), Nat.add_sub_cancel]
      by_cases h2 : n - n / 2 ≤ 1
      · rw [lgN_small h2]; simp; omega
      · have hb := lgN_big (n := n - n / 2) (by omega)
        rcases ih (n - n / 2) (by omega) with h3 | h3
        · omega
        · rw [hb, Nat.add_sub_cancel] at h3
          rw [hb, Nat.pow_succ]
          omega
theorem lgN_unique {n k : Nat} (h1 : n ≤ 2 ^ k) (h2 : k = 0 ∨ 2 ^ (k - 1) < n) : k = lgN n := by
  have a1 := le_pow_lgN n
  have a2 := pow_lgN_lt n
  rcases Nat.lt_trichotomy k (lgN n) with h | h | h
  · rcases a2 with a2 | a2
    · omega
    · have := Nat.pow_le_pow_right (n := 2) (by omega) (show k ≤ lgN n - 1 by omega)
      omega
  · exact h
  · rcases h2 with h2 | h2
    · omega
    · have := Nat.pow_le_pow_right (n := 2) (by omega) (show lgN n ≤ k - 1 by omega)
      omega
/-- where the parts begin -/
def starts : List Nat → List Nat
  | [] => []
  | _ :: r => r.sum :: starts r
/-- no part lies too deep -/
def Deep (L : Nat) : List Nat → Prop
  | [] => True
  | m :: r => r.length + lgN m ≤ L ∧ Deep L r
/-- what is still to be stepped, twice -/
def dues : List Nat → Nat
  | [] => 0
  | m :: r => m * lgN m + dues r
/-- the parts of a walker of n values that has made s steps -/
structure Good (n s : Nat) (ms : List Nat) : Prop where
  pos : ∀ m ∈ ms, 1 ≤ m
  deep : Deep (lgN n) ms
  paid : 2 * s + dues ms ≤ n * lgN n
theorem Good.start (n : Nat) (h : 1 ≤ n) : Good n 0 [n] := ⟨fun m hm => by rw [List.mem_singleton.1 hm]; exact h, ⟨by simp, trivial⟩, by simp [dues]⟩
/-- the part on top is halved -/
theorem Good.half {n s m : Nat} {r : List Nat} (h : Good n s (m :: r)) (hm : 2 ≤ m) : Good n (s + m / 2) ((m - m / 2) :: m / 2 :: r) := by
  obtain ⟨h1, ⟨h2, h3⟩, h4⟩ := h
  have hb := lgN_big hm
  have hmo := lgN_mono (m - m / 2) (m / 2) (by omega)
  refine ⟨fun x hx => ?_, ⟨?_, ?_, h3⟩, ?_⟩
  · rcases List.mem_cons.1 hx with rfl | hx
    · omega
    · rcases List.mem_cons.1 hx with rfl | hx
      · omega
      · exact h1 x (List.mem_cons_of_mem _ hx)
  · simp only [List.length_cons]; omega
  · omega
  · simp only [dues] at h4 ⊢
    rw [hb, Nat.mul_add, Nat.mul_one] at h4
    have e1 : m / 2 * lgN (m / 2) ≤ m / 2 * lgN (m - m / 2) := Nat.mul_le_mul_left _ hmo
    have e2 : m * lgN (m - m / 2) = (m - m / 2) * lgN (m - m / 2) + m / 2 * lgN (m - m / 2) := by rw [← Nat.add_mul]; congr 1; omega
    omega
theorem Good.pop {n s : Nat} {r : List Nat} (h : Good n s (1 :: r)) : Good n s r := by
  obtain ⟨h1, ⟨h2, h3⟩, h4⟩ := h
  refine ⟨fun x hx => h1 x (List.mem_cons_of_mem _ hx), h3, ?_⟩
  simp only [dues] at h4
  omega
theorem Good.count {n s : Nat} {ms : List Nat} (h : Good n s ms) : ms.length ≤ lgN n + 1 := by
  cases ms with
  | nil => simp
  | cons m r => have := h.deep.1; simp only [List.length_cons]; omega
theorem Good.cost {n s : Nat} {ms : List Nat} (h : Good n s ms) : 2 * s ≤ n * lgN n := by have := h.paid; omega
theorem starts_le : ∀ (ms : List Nat) (x : Nat), x ∈ starts ms → x ≤ ms.tail.sum
  | m :: r, x, h => by
    rcases List.mem_cons.1 h with rfl | h
    · exact Nat.le_refl _
    · have := starts_le r x h
      cases r with
      | nil => cases h
      | cons a b => simp only [List.tail_cons, List.sum_cons] at this ⊢; omega
theorem starts_lt : ∀ (ms : List Nat) (x : Nat), (∀ m ∈ ms, 1 ≤ m) → x ∈ starts ms → x < ms.sum
  | m :: r, x, hp, h => by
    have := starts_le (m :: r) x h
    have := hp m (by simp)
    simp only [List.tail_cons, List.sum_cons] at *
    omega
end Go.Proofs.YtaphbkkklapdaaaDoor
