/-
  Paths and bridges of trees of hashes, in plain Lean: what they are, what they come to.
-/
import Derived.Test.YtdfoffheolbokaaDoorMerkle
namespace Go.Proofs.YtdfoffheolbokaaDoor
/-- on which side each hash of a path lies, from the root down: true at the left -/
def sidesDown (i n : Nat) : List Bool :=
  if n ≤ 1 then [] else if halfN n ≤ i then true :: sidesDown (i - halfN n) (n - halfN n) else false :: sidesDown i (halfN n)
termination_by n
decreasing_by
  · have := halfN_pos n; omega
  · exact halfN_lt (by omega)
theorem sidesDown_one (i n : Nat) (h : n ≤ 1) : sidesDown i n = [] := by rw [sidesDown, if_pos h]
theorem sidesDown_left (i n : Nat) (h : 1 < n) (hk : halfN n ≤ i) : sidesDown i n = true :: sidesDown (i - halfN n) (n - halfN n) := by rw [sidesDown, if_neg (by omega), if_pos hk]
theorem sidesDown_right (i n : Nat) (h : 1 < n) (hk : i < halfN n) : sidesDown i n = false :: sidesDown i (halfN n) := by rw [sidesDown, if_neg (by omega), if_neg (by omega)]
/-- the hashes of a path, from the root down -/
def pathDown (l : List H8) (i : Nat) : List H8 :=
  if l.length ≤ 1 then [] else if halfN l.length ≤ i then rootOf (l.take (halfN l.length)) :: pathDown (l.drop (halfN l.length)) (i - halfN l.length) else rootOf (l.drop (halfN l.length)) :: pathDown (l.take (halfN l.length)) i
termination_by l.length
decreasing_by
  · have := halfN_pos l.length; simp; omega
  · have := halfN_lt (n := l.length) (by omega); simp; omega
theorem pathDown_one (l : List H8) (i : Nat) (h : l.length ≤ 1) : pathDown l i = [] := by rw [pathDown, if_pos h]
theorem pathDown_left (l : List H8) (i : Nat) (h : 1 < l.length) (hk : halfN l.length ≤ i) : pathDown l i = rootOf (l.take (halfN l.length)) :: pathDown (l.drop (halfN l.length)) (i - halfN l.length) := by rw [pathDown, if_neg (by omega), if_pos hk]
theorem pathDown_right (l : List H8) (i : Nat) (h : 1 < l.length) (hk : i < halfN l.length) : pathDown l i = rootOf (l.drop (halfN l.length)) :: pathDown (l.take (halfN l.length)) i := by rw [pathDown, if_neg (by omega), if_neg (by omega)]
/-- a step of the climb -/
def stepH (h : H8) (b : Bool) (p : H8) : H8 := if b then nodeH p h else nodeH h p
/-- what a path comes to: sides and hashes from the leaf up -/
def climbH (h : H8) : List Bool → List H8 → H8
  | b :: s, p :: q => climbH (stepH h b p) s q
  | _, _ => h
theorem climbH_snoc : ∀ (s : List Bool) (q : List H8) (h : H8) (b : Bool) (p : H8), s.length = q.length → climbH h (s ++ [b]) (q ++ [p]) = stepH (climbH h s q) b p
  | [], [], _, _, _, _ => rfl
  | [], _ :: _, _, _, _, e => by cases e
  | _ :: _, [], _, _, _, e => by cases e
  | a :: s, x :: q, h, b, p, e => by
    simp only [List.cons_append, climbH]
    exact climbH_snoc s q _ b p (by simpa using e)
theorem climbH_take (h : H8) (s : List Bool) (q : List H8) (k : Nat) (hs : k < s.length) (hq : k < q.length) : climbH h (s.take (k + 1)) (q.take (k + 1)) = stepH (climbH h (s.take k) (q.take k)) s[k] q[k] := by
  rw [List.take_succ_eq_append_getElem hs, List.take_succ_eq_append_getElem hq]
  exact climbH_snoc _ _ _ _ _ (by simp; omega)
/-- is a path taken? -/
def takenI (leaf : H8) (i n : Nat) (proof : List H8) (root : H8) : Bool := (sidesDown i n).length == proof.length && climbH leaf (sidesDown i n).reverse proof == root
theorem pathDown_length : ∀ (n : Nat) (l : List H8) (i : Nat), l.length = n → (pathDown l i).length = (sidesDown i n).length := by
  intro n
  induction n using Nat.strongRecOn with
  | ind n ih =>
    intro l i hl
    by_cases h1 : n ≤ 1
    · rw [pathDown_one _ _ (by omega), sidesDown_one _ _ h1]; rfl
    · have hh := halfN_lt (n := n) (by omega)
      have hp := halfN_pos n
      by_cases hk : halfN n ≤ i
      · rw [pathDown_left _ _ (by omega) (by rw [hl]; exact hk), sidesDown_left _ _ (by omega) hk, List.length_cons, List.length_cons, hl, ih (n - halfN n) (by omega) _ _ (by simp [hl])]
      · rw [pathDown_right _ _ (by omega) (by rw [hl]; omega), sidesDown_right _ _ (by omega) (by omega), List.length_cons, List.length_cons, hl, ih (halfN n) (by omega) _ _ (by simp [hl]; omega)]
theorem sidesDown_bd : ∀ (n i : Nat), (sidesDown i n).length ≤ n := by
  intro n
  induction n using Nat.strongRecOn with
  | ind n ih =>
    intro i
    by_cases h1 : n ≤ 1
    · rw [sidesDown_one _ _ h1]; simp
    · have hh := halfN_lt (n := n) (by omega)
      have hp := halfN_pos n
      by_cases hk : halfN n ≤ i
      · rw [sidesDown_left _ _ (by omega) hk, List.length_cons]
        have := ih (n - halfN n) (by omega) (i - halfN n); omega
      · rw [sidesDown_right _ _ (by omega) (by omega), List.length_cons]
        have := ih (halfN n) (by omega) i; omega
/-- what is there is proved -/
theorem climb_path : ∀ (n : Nat) (l : List H8) (i : Nat) (hl : l.length = n) (hi : i < n), climbH (l[i]'(by omega)) (sidesDown i n).reverse (pathDown l i).reverse = rootOf l := by
  intro n
  induction n using Nat.strongRecOn with
  | ind n ih =>
    intro l i hl hi
    by_cases h1 : n ≤ 1
    · obtain rfl : n = 1 := by omega
      match l, hl with
      | [x], _ =>
        obtain rfl : i = 0 := by omega
        rw [sidesDown_one _ _ (by omega), pathDown_one _ _ (by simp), rootOf_one]; rfl
    · have hh := halfN_lt (n := n) (by omega)
      have hp := halfN_pos n
      have hlen := pathDown_length n l i hl
      by_cases hk : halfN n ≤ i
      · have e1 := pathDown_left l i (by omega) (by rw [hl]; exact hk)
        have e2 := sidesDown_left i n (by omega) hk
        rw [e1, e2] at hlen ⊢
        rw [List.reverse_cons, List.reverse_cons, climbH_snoc _ _ _ _ _ (by simp at hlen ⊢; omega), rootOf_more l (by omega)]
        have := ih (n - halfN n) (by omega) (l.drop (halfN n)) (i - halfN n) (by simp [hl]) (by omega)
        rw [List.getElem_drop] at this
        simp only [show halfN n + (i - halfN n) = i by omega] at this
        rw [show halfN l.length = halfN n by rw [hl], this]; rfl
      · have e1 := pathDown_right l i (by omega) (by rw [hl]; omega)
        have e2 := sidesDown_right i n (by omega) (by omega)
        rw [e1, e2] at hlen ⊢
        rw [List.reverse_cons, List.reverse_cons, climbH_snoc _ _ _ _ _ (by simp at hlen ⊢; omega), rootOf_more l (by omega)]
        have := ih (halfN n) (by omega) (l.take (halfN n)) i (by simp [hl]; omega) (by omega)
        rw [List.getElem_take] at this
        rw [show halfN l.length = halfN n by rw [hl], this]; rfl
/-- on which side the hashes of a bridge lie, from the root down: true where the beginning reaches beyond the first part; and whether the old tree is a whole part -/
def wayDown (m n : Nat) : List Bool :=
  if _h : n ≤ m ∨ n ≤ 1 then [] else if halfN n < m then true :: wayDown (m - halfN n) (n - halfN n) else false :: wayDown m (halfN n)
termination_by n
decreasing_by
  · have := halfN_pos n; omega
  · exact halfN_lt (by omega)
theorem wayDown_end (m n : Nat) (h : n ≤ m) : wayDown m n = [] := by rw [wayDown, dif_pos (.inl h)]
theorem wayDown_left (m n : Nat) (h0 : 0 < m) (h : m < n) (hk : halfN n < m) : wayDown m n = true :: wayDown (m - halfN n) (n - halfN n) := by rw [wayDown, dif_neg (by omega), if_pos hk]
theorem wayDown_right (m n : Nat) (h0 : 0 < m) (h : m < n) (hk : m ≤ halfN n) : wayDown m n = false :: wayDown m (halfN n) := by rw [wayDown, dif_neg (by omega), if_neg (by omega)]
theorem wayDown_bd : ∀ (n m : Nat), 0 < m → (wayDown m n).length ≤ n := by
  intro n
  induction n using Nat.strongRecOn with
  | ind n ih =>
    intro m h0
    by_cases h1 : n ≤ m
    · rw [wayDown_end _ _ h1]; simp
    · have hh := halfN_lt (n := n) (by omega)
      have hp := halfN_pos n
      by_cases hk : halfN n < m
      · rw [wayDown_left _ _ h0 (by omega) hk, List.length_cons]
        have := ih (n - halfN n) (by omega) (m - halfN n) (by omega); omega
      · rw [wayDown_right _ _ h0 (by omega) (by omega), List.length_cons]
        have := ih (halfN n) (by omega) m h0; omega
/-- the hashes of a bridge, from the root down, without the old tree's last part -/
def bridgeDown (l : List H8) (m : Nat) : List H8 :=
  if _h : l.length ≤ m ∨ l.length ≤ 1 then [] else if halfN l.length < m then rootOf (l.take (halfN l.length)) :: bridgeDown (l.drop (halfN l.length)) (m - halfN l.length) else rootOf (l.drop (halfN l.length)) :: bridgeDown (l.take (halfN l.length)) m
termination_by l.length
decreasing_by
  · have := halfN_pos l.length; simp; omega
  · have := halfN_lt (n := l.length) (by omega); simp; omega
theorem bridgeDown_end (l : List H8) (m : Nat) (h : l.length ≤ m) : bridgeDown l m = [] := by rw [bridgeDown, dif_pos (.inl h)]
theorem bridgeDown_left (l : List H8) (m : Nat) (h0 : 0 < m) (h : m < l.length) (hk : halfN l.length < m) : bridgeDown l m = rootOf (l.take (halfN l.length)) :: bridgeDown (l.drop (halfN l.length)) (m - halfN l.length) := by rw [bridgeDown, dif_neg (by omega), if_pos hk]
theorem bridgeDown_right (l : List H8) (m : Nat) (h0 : 0 < m) (h : m < l.length) (hk : m ≤ halfN l.length) : bridgeDown l m = rootOf (l.drop (halfN l.length)) :: bridgeDown (l.take (halfN l.length)) m := by rw [bridgeDown, dif_neg (by omega), if_neg (by omega)]
/-- the old tree's last part: where it begins -/
def lastAt (m n : Nat) : Nat :=
  if _h : n ≤ m ∨ n ≤ 1 then 0 else if halfN n < m then halfN n + lastAt (m - halfN n) (n - halfN n) else lastAt m (halfN n)
termination_by n
decreasing_by
  · have := halfN_pos n; omega
  · exact halfN_lt (by omega)
theorem lastAt_end (m n : Nat) (h : n ≤ m) : lastAt m n = 0 := by rw [lastAt, dif_pos (.inl h)]
theorem lastAt_left (m n : Nat) (h0 : 0 < m) (h : m < n) (hk : halfN n < m) : lastAt m n = halfN n + lastAt (m - halfN n) (n - halfN n) := by rw [lastAt, dif_neg (by omega), if_pos hk]
theorem lastAt_right (m n : Nat) (h0 : 0 < m) (h : m < n) (hk : m ≤ halfN n) : lastAt m n = lastAt m (halfN n) := by rw [lastAt, dif_neg (by omega), if_neg (by omega)]
/-- what a bridge comes to: the old root and the new one -/
def crossH (h : H8 × H8) : List Bool → List H8 → H8 × H8
  | b :: s, p :: q => crossH (if b then (nodeH p h.1, nodeH p h.2) else (h.1, nodeH h.2 p)) s q
  | _, _ => h
theorem crossH_snoc : ∀ (s : List Bool) (q : List H8) (h : H8 × H8) (b : Bool) (p : H8), s.length = q.length → crossH h (s ++ [b]) (q ++ [p]) = (if b then (nodeH p (crossH h s q).1, nodeH p (crossH h s q).2) else ((crossH h s q).1, nodeH (crossH h s q).2 p))
  | [], [], _, _, _, _ => rfl
  | [], _ :: _, _, _, _, e => by cases e
  | _ :: _, [], _, _, _, e => by cases e
  | a :: s, x :: q, h, b, p, e => by
    simp only [List.cons_append, crossH]
    exact crossH_snoc s q _ b p (by simpa using e)
theorem crossH_take (h : H8 × H8) (s : List Bool) (q : List H8) (k : Nat) (hs : k < s.length) (hq : k < q.length) : crossH h (s.take (k + 1)) (q.take (k + 1)) = (if s[k] then (nodeH q[k] (crossH h (s.take k) (q.take k)).1, nodeH q[k] (crossH h (s.take k) (q.take k)).2) else ((crossH h (s.take k) (q.take k)).1, nodeH (crossH h (s.take k) (q.take k)).2 q[k])) := by
  rw [List.take_succ_eq_append_getElem hs, List.take_succ_eq_append_getElem hq]
  exact crossH_snoc _ _ _ _ _ (by simp; omega)
theorem bridgeDown_length : ∀ (n : Nat) (l : List H8) (m : Nat), l.length = n → 0 < m → m ≤ n → (bridgeDown l m).length = (wayDown m n).length := by
  intro n
  induction n using Nat.strongRecOn with
  | ind n ih =>
    intro l m hl h0 hm
    by_cases h1 : n ≤ m
    · rw [bridgeDown_end _ _ (by omega), wayDown_end _ _ h1]; rfl
    · have hh := halfN_lt (n := n) (by omega)
      have hp := halfN_pos n
      by_cases hk : halfN n < m
      · rw [bridgeDown_left _ _ h0 (by omega) (by rw [hl]; exact hk), wayDown_left _ _ h0 (by omega) hk, List.length_cons, List.length_cons, hl, ih (n - halfN n) (by omega) _ _ (by simp [hl]) (by omega) (by omega)]
      · rw [bridgeDown_right _ _ h0 (by omega) (by rw [hl]; omega), wayDown_right _ _ h0 (by omega) (by omega), List.length_cons, List.length_cons, hl, ih (halfN n) (by omega) _ _ (by simp [hl]; omega) (by omega) (by omega)]
theorem lastAt_lt : ∀ (n m : Nat), 0 < m → m ≤ n → lastAt m n < m := by
  intro n
  induction n using Nat.strongRecOn with
  | ind n ih =>
    intro m h0 hm
    by_cases h1 : n ≤ m
    · rw [lastAt_end _ _ h1]; exact h0
    · have hh := halfN_lt (n := n) (by omega)
      have hp := halfN_pos n
      by_cases hk : halfN n < m
      · rw [lastAt_left _ _ h0 (by omega) hk]
        have := ih (n - halfN n) (by omega) (m - halfN n) (by omega) (by omega)
        omega
      · rw [lastAt_right _ _ h0 (by omega) (by omega)]
        exact ih (halfN n) (by omega) m h0 (by omega)
/-- a beginning that reaches beyond the first part: the roots of the beginning -/
theorem rootOf_take (l : List H8) (m : Nat) (hm : m < l.length) (hk : halfN l.length < m) : rootOf (l.take m) = nodeH (rootOf (l.take (halfN l.length))) (rootOf ((l.drop (halfN l.length)).take (m - halfN l.length))) := by
  have h2 := halfN_ge (n := l.length) (by omega)
  have e : l.take m = l.take (halfN l.length) ++ (l.drop (halfN l.length)).take (m - halfN l.length) := by
    conv => lhs; rw [show m = halfN l.length + (m - halfN l.length) by omega, List.take_add]
  rw [e]
  exact rootOf_append _ _ (Nat.log2 (l.length - 1)) (by simp only [List.length_take]; rw [Nat.min_eq_left (by omega)]; rfl) (by simp; omega) (by simp; omega)
/-- the bridge from any beginning comes to the beginning's root and the whole's -/
theorem cross_bridge : ∀ (n : Nat) (l : List H8) (m : Nat), l.length = n → 0 < m → m ≤ n →
    crossH (rootOf ((l.take m).drop (lastAt m n)), rootOf ((l.take m).drop (lastAt m n))) (wayDown m n).reverse (bridgeDown l m).reverse = (rootOf (l.take m), rootOf l) := by
  intro n
  induction n using Nat.strongRecOn with
  | ind n ih =>
    intro l m hl h0 hm
    by_cases h1 : n ≤ m
    · rw [bridgeDown_end _ _ (by omega), wayDown_end _ _ h1, lastAt_end _ _ h1, List.drop_zero, List.take_of_length_le (by omega)]; rfl
    · have hh := halfN_lt (n := n) (by omega)
      have hp := halfN_pos n
      have hlen := bridgeDown_length n l m hl h0 hm
      by_cases hk : halfN n < m
      · rw [bridgeDown_left l m h0 (by omega) (by rw [hl]; exact hk), wayDown_left m n h0 (by omega) hk] at hlen ⊢
        rw [hl] at hlen ⊢
        rw [List.reverse_cons, List.reverse_cons, crossH_snoc _ _ _ _ _ (by simp at hlen ⊢; omega), lastAt_left m n h0 (by omega) hk]
        have := ih (n - halfN n) (by omega) (l.drop (halfN n)) (m - halfN n) (by simp [hl]) (by omega) (by omega)
        have e : (l.take m).drop (halfN n + lastAt (m - halfN n) (n - halfN n)) = ((l.drop (halfN n)).take (m - halfN n)).drop (lastAt (m - halfN n) (n - halfN n)) := by
          rw [← List.drop_drop, List.drop_take]
        rw [e, this, if_pos rfl, rootOf_more l (by omega), rootOf_take l m (by omega) (by rw [hl]; exact hk), hl]
      · rw [bridgeDown_right l m h0 (by omega) (by rw [hl]; omega), wayDown_right m n h0 (by omega) (by omega)] at hlen ⊢
        rw [hl] at hlen ⊢
        rw [List.reverse_cons, List.reverse_cons, crossH_snoc _ _ _ _ _ (by simp at hlen ⊢; omega), lastAt_right m n h0 (by omega) (by omega)]
        have := ih (halfN n) (by omega) (l.take (halfN n)) m (by simp [hl]; omega) (by omega) (by omega)
        rw [List.take_take, Nat.min_eq_left (by omega)] at this
        rw [this, if_neg (by simp), rootOf_more l (by omega), hl]
end Go.Proofs.YtdfoffheolbokaaDoor
