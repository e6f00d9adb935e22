/-
  Trees of hashes, in plain Lean: the greatest power of two below a number, roots, paths and what they come to, the whole trees that a tree which grows is made of.
-/
import Derived.Test.YtdfoffheolbokaaDoorDigSum256
namespace Go.Proofs.YtdfoffheolbokaaDoor
abbrev H8 := List (BitVec 8)
def leafH (d : List (BitVec 8)) : H8 := sha256 (0 :: d)
def nodeH (l r : H8) : H8 := sha256 (1 :: (l ++ r))
theorem leafH_length (d : List (BitVec 8)) : (leafH d).length = 32 := sha256_length _
theorem nodeH_length (l r : H8) : (nodeH l r).length = 32 := sha256_length _
/-- the greatest power of two below n, n being above 1 -/
def halfN (n : Nat) : Nat := 2 ^ Nat.log2 (n - 1)
theorem halfN_pos (n : Nat) : 0 < halfN n := Nat.two_pow_pos _
theorem halfN_lt {n : Nat} (h : 1 < n) : halfN n < n := by
  have := Nat.log2_self_le (n := n - 1) (by omega)
  unfold halfN; omega
theorem halfN_ge {n : Nat} (h : 1 < n) : n ≤ 2 * halfN n := by
  have := (Nat.lt_log2_self : n - 1 < 2 ^ (Nat.log2 (n - 1) + 1))
  unfold halfN; rw [Nat.pow_succ] at this; omega
theorem halfN_eq {n a : Nat} (h1 : 2 ^ a < n) (h2 : n ≤ 2 * 2 ^ a) : halfN n = 2 ^ a := by
  have : Nat.log2 (n - 1) = a := by
    rw [Nat.log2_eq_iff (by have := Nat.two_pow_pos a; omega)]
    rw [Nat.pow_succ]; omega
  unfold halfN; rw [this]
/-- the root over leaves -/
def rootOf (l : List H8) : H8 :=
  if l.length = 0 then sha256 [] else if _h1 : l.length = 1 then l.headD [] else nodeH (rootOf (l.take (halfN l.length))) (rootOf (l.drop (halfN l.length)))
termination_by l.length
decreasing_by
  · have := halfN_lt (n := l.length) (by omega); simp; omega
  · have := halfN_pos l.length; simp; omega
theorem rootOf_nil : rootOf [] = sha256 [] := by rw [rootOf]; simp
theorem rootOf_one (x : H8) : rootOf [x] = x := by rw [rootOf]; simp
theorem rootOf_more (l : List H8) (h : 1 < l.length) : rootOf l = nodeH (rootOf (l.take (halfN l.length))) (rootOf (l.drop (halfN l.length))) := by
  rw [rootOf, if_neg (by omega), dif_neg (by omega)]
theorem rootOf_length (l : List H8) (hl : ∀ x ∈ l, x.length = 32) : (rootOf l).length = 32 := by
  match l with
  | [] => rw [rootOf_nil]; exact sha256_length _
  | [x] => rw [rootOf_one]; exact hl x (by simp)
  | x :: y :: r => rw [rootOf_more _ (by simp)]; exact nodeH_length _ _
/-- two parts, of which the first one is a power of two, and the second no longer -/
theorem rootOf_append (s t : List H8) (a : Nat) (hs : s.length = 2 ^ a) (ht : 0 < t.length) (hle : t.length ≤ s.length) : rootOf (s ++ t) = nodeH (rootOf s) (rootOf t) := by
  have h1 : (s ++ t).length = s.length + t.length := List.length_append
  have hh : halfN (s ++ t).length = s.length := by
    rw [hs]; exact halfN_eq (by omega) (by omega)
  have : 0 < 2 ^ a := Nat.two_pow_pos a
  rw [rootOf_more _ (by omega), hh, List.take_left' rfl, List.drop_left' rfl]
/-- the whole trees that a list is cut into: powers of two, the greatest first -/
structure Peaks (S : List (List H8)) (l : List H8) : Prop where
  all : l = S.flatten
  pow : ∀ s ∈ S, ∃ a, s.length = 2 ^ a
  desc : S.Pairwise fun s t => t.length < s.length
theorem Peaks.nil : Peaks [] [] := ⟨rfl, by simp, .nil⟩
theorem pow_lt_sum : ∀ (S : List (List H8)) (a : Nat), (∀ s ∈ S, ∃ a, s.length = 2 ^ a) → S.Pairwise (fun s t => t.length < s.length) → (∀ s ∈ S, s.length < 2 ^ a) → S.flatten.length < 2 ^ a
  | [], a, _, _, _ => by simpa using Nat.two_pow_pos a
  | s :: S, a, hp, hd, hlt => by
    obtain ⟨b, hb⟩ := hp s (by simp)
    have hd' := List.pairwise_cons.1 hd
    have h1 := pow_lt_sum S b (fun t ht => hp t (by simp [ht])) hd'.2 (fun t ht => by have := hd'.1 t ht; omega)
    have h2 : s.length < 2 ^ a := hlt s (by simp)
    have h3 : b < a := (Nat.pow_lt_pow_iff_right (by omega)).1 (by omega : 2 ^ b < 2 ^ a)
    have h4 : 2 ^ (b + 1) ≤ 2 ^ a := Nat.pow_le_pow_right (by omega) h3
    rw [Nat.pow_succ] at h4
    simp only [List.flatten_cons, List.length_append]
    omega
/-- the root of what whole trees are put together to: from the last one on -/
def rootOfPeaks : List (List H8) → H8
  | [] => sha256 []
  | [s] => rootOf s
  | s :: t :: S => nodeH (rootOf s) (rootOfPeaks (t :: S))
theorem rootOfPeaks_eq : ∀ (S : List (List H8)), (∀ s ∈ S, ∃ a, s.length = 2 ^ a) → S.Pairwise (fun s t => t.length < s.length) → rootOfPeaks S = rootOf S.flatten
  | [], _, _ => by simp [rootOfPeaks, rootOf_nil]
  | [s], _, _ => by simp [rootOfPeaks]
  | s :: t :: S, hp, hd => by
    obtain ⟨a, ha⟩ := hp s (by simp)
    have hd' := List.pairwise_cons.1 hd
    have h1 := pow_lt_sum (t :: S) a (fun t ht => hp t (by simp [ht])) hd'.2 (fun t ht => by have := hd'.1 t ht; omega)
    have h2 := rootOfPeaks_eq (t :: S) (fun t ht => hp t (by simp [ht])) hd'.2
    have h3 : 0 < (t :: S).flatten.length := by
      obtain ⟨b, hb⟩ := hp t (by simp)
      have := Nat.two_pow_pos b
      simp only [List.flatten_cons, List.length_append]; omega
    rw [rootOfPeaks, h2, show (s :: t :: S).flatten = s ++ (t :: S).flatten from rfl]
    exact (rootOf_append s _ a ha h3 (by omega)).symm
theorem Peaks.root {S : List (List H8)} {l : List H8} (h : Peaks S l) : rootOfPeaks S = rootOf l := by rw [h.all]; exact rootOfPeaks_eq S h.pow h.desc
/-- the fold of the roots from behind, as far as it has come: the last k of n peaks -/
theorem rootOfPeaks_drop (S : List (List H8)) (i : Nat) (h : i + 1 < S.length) : rootOfPeaks (S.drop i) = nodeH (rootOf (S[i]'(by omega))) (rootOfPeaks (S.drop (i + 1))) := by
  rw [List.drop_eq_getElem_cons (i := i) (by omega), List.drop_eq_getElem_cons (i := i + 1) h]
  rfl
theorem rootOfPeaks_last (S : List (List H8)) (i : Nat) (h : i + 1 = S.length) : rootOfPeaks (S.drop i) = rootOf (S[i]'(by omega)) := by
  rw [List.drop_eq_getElem_cons (i := i) (by omega), List.drop_eq_nil_of_le (by omega)]
  rfl
/-- while a leaf is laid behind: the peaks ahead, and the tree that grows at the end -/
structure Grows (S : List (List H8)) (t l : List H8) (x : H8) : Prop where
  all : l ++ [x] = S.flatten ++ t
  pow : ∀ s ∈ S, ∃ a, s.length = 2 ^ a
  tpow : ∃ a, t.length = 2 ^ a
  desc : S.Pairwise fun s t => t.length < s.length
  le : ∀ s ∈ S, t.length ≤ s.length
theorem Peaks.grows {S : List (List H8)} {l : List H8} (h : Peaks S l) (x : H8) : Grows S [x] l x :=
  ⟨by rw [h.all], h.pow, ⟨0, rfl⟩, h.desc, fun s hs => by obtain ⟨a, ha⟩ := h.pow s hs; have := Nat.two_pow_pos a; simp; omega⟩
theorem Grows.merge {S : List (List H8)} {s t l : List H8} {x : H8} (h : Grows (S ++ [s]) t l x) (he : s.length = t.length) : Grows S (s ++ t) l x ∧ rootOf (s ++ t) = nodeH (rootOf s) (rootOf t) := by
  obtain ⟨a, ha⟩ := h.tpow
  have hp := Nat.two_pow_pos a
  refine ⟨⟨by rw [h.all]; simp, fun u hu => h.pow u (by simp [hu]), ⟨a + 1, by rw [List.length_append, Nat.pow_succ]; omega⟩, (List.pairwise_append.1 h.desc).1, fun u hu => ?_⟩, rootOf_append s t a (by omega) (by omega) (by omega)⟩
  have h1 := (List.pairwise_append.1 h.desc).2.2 u hu s (by simp)
  obtain ⟨b, hb⟩ := h.pow u (by simp [hu])
  have h3 : a < b := (Nat.pow_lt_pow_iff_right (by omega)).1 (by omega : 2 ^ a < 2 ^ b)
  have h4 : 2 ^ (a + 1) ≤ 2 ^ b := Nat.pow_le_pow_right (by omega) h3
  rw [Nat.pow_succ] at h4
  rw [List.length_append]; omega
theorem Grows.done {S : List (List H8)} {t l : List H8} {x : H8} (h : Grows S t l x) (hn : ∀ s, S.getLast? = some s → s.length ≠ t.length) : Peaks (S ++ [t]) (l ++ [x]) := by
  refine ⟨by rw [h.all]; simp, fun u hu => ?_, List.pairwise_append.2 ⟨h.desc, List.pairwise_singleton _ _, fun u hu v hv => ?_⟩⟩
  · rcases List.mem_append.1 hu with hu | hu
    · exact h.pow u hu
    · rw [List.mem_singleton.1 hu]; exact h.tpow
  · obtain rfl := List.mem_singleton.1 hv
    rcases List.eq_nil_or_concat S with rfl | ⟨S', s, rfl⟩
    · cases hu
    · rw [List.concat_eq_append] at hu hn h
      have hs := hn s (by simp)
      have hs2 := h.le s (by simp)
      rcases List.mem_append.1 hu with hu | hu
      · have := (List.pairwise_append.1 h.desc).2.2 u hu s (by simp); omega
      · rw [List.mem_singleton.1 hu]; omega
/-- how many peaks: they are unlike powers of two -/
theorem peaks_bound {S : List (List H8)} {l : List H8} (h : Peaks S l) : S.length ≤ l.length := by
  rw [h.all, List.length_flatten]
  have : ∀ s ∈ S, 1 ≤ s.length := fun s hs => by obtain ⟨a, ha⟩ := h.pow s hs; have := Nat.two_pow_pos a; omega
  clear h
  induction S with
  | nil => simp
  | cons s S ih =>
    have h1 := ih fun t ht => this t (by simp [ht])
    have h2 := this s (by simp)
    simp; omega
end Go.Proofs.YtdfoffheolbokaaDoor
