/-
  Rows of pairs of hashes of one's own; what a path lays beside one another; ends.
-/
import Derived.Test.YtdfoffheolbokaaDoorBuild2
import Derived.Test.YtdfoffheolbokaaDoorCheckI
namespace Go.Proofs.YtdfoffheolbokaaDoor
open Go Go.RowKit Go.Proofs
/-- the hashes of pairs, one behind the other -/
def hs2 (ps : List (H8 × H8)) : List H8 := ps.flatMap fun p => [p.1, p.2]
theorem hs2_length : ∀ (ps : List (H8 × H8)), (hs2 ps).length = 2 * ps.length
  | [] => rfl
  | p :: ps => by
    have := hs2_length ps
    simp only [hs2, List.flatMap_cons, List.length_append, List.length_cons, List.length_nil] at this ⊢
    omega
theorem hs2_get : ∀ (ps : List (H8 × H8)) (i : Nat) (h : i < ps.length), (hs2 ps)[2 * i]? = some ps[i].1 ∧ (hs2 ps)[2 * i + 1]? = some ps[i].2
  | p :: ps, 0, _ => by simp [hs2]
  | p :: ps, i + 1, h => by
    have := hs2_get ps i (by simpa using h)
    have e : hs2 (p :: ps) = p.1 :: p.2 :: hs2 ps := rfl
    rw [e]
    simp only [show 2 * (i + 1) = (2 * i) + 1 + 1 by omega, List.getElem?_cons_succ, List.getElem_cons_succ]
    exact this
theorem hs2_append (ps qs : List (H8 × H8)) : hs2 (ps ++ qs) = hs2 ps ++ hs2 qs := by simp [hs2]
/-- a row of pairs of one's own -/
def OwnP (w : World) (B : Nat) (v : Value) (ps : List (H8 × H8)) : Prop := (∀ x ∈ hs2 ps, x.length = 32) ∧ w.ownsRow B 48 64 v ps.length ((hs2 ps).flatten.map U8)
theorem OwnP.nil (w : World) (B : Nat) : OwnP w B (.slice none 0 0) [] := ⟨by simp [hs2], World.ownsRow_nil w B _ 64⟩
theorem OwnP.upd {w w' : World} {B : Nat} {v : Value} {l : List (H8 × H8)} {S : List Nat} (h : OwnP w B v l) (u : Upd S w w') (hn : ∀ k, v.ownBlock = some k → k ∉ S) : OwnP w' B v l := ⟨h.1, own_upd h.2 u hn⟩
theorem OwnP.upd0 {w w' : World} {B : Nat} {v : Value} {l : List (H8 × H8)} (h : OwnP w B v l) (u : Upd [] w w') : OwnP w' B v l := ⟨h.1, own_upd h.2 u (by simp)⟩
theorem OwnP.lt {w : World} {B : Nat} {v : Value} {l : List (H8 × H8)} (h : OwnP w B v l) : ∀ k, v.ownBlock = some k → B ≤ k ∧ k < w.heap.size := own_block h.2
theorem OwnP.isSlice {w : World} {B : Nat} {v : Value} {l : List (H8 × H8)} (h : OwnP w B v l) : ∃ a cap, v = .slice a l.length cap := by
  rcases h.2.2 with ⟨rfl, h0⟩ | ⟨g, cap, cur, rfl, _⟩
  · exact ⟨none, 0, by rw [h0]⟩
  · exact ⟨_, cap, rfl⟩
/-- where a row of pairs that is not empty lies, and a pair's two hashes -/
theorem OwnP.at {w : World} {B : Nat} {v : Value} {ps : List (H8 × H8)} (h : OwnP w B v ps) (hn : 0 < ps.length) :
    ∃ g cap, v = .slice (some ⟨g, 0, none⟩) ps.length cap ∧ B ≤ g ∧ g < w.heap.size ∧ Bytes w g 0 (hs2 ps).flatten := by
  obtain ⟨hl, hx, h2⟩ := h
  rcases h2 with ⟨_, h0⟩ | ⟨g, cap, cur, rfl, hb, hh, hn', hm, hs, ht⟩
  · omega
  · have hfl := flat_length (hs2 ps) hl
    rw [hs2_length] at hfl
    refine ⟨g, cap, rfl, hb, lt_of_heap hh, Bytes.of_row hh _ 0 (fun i hi => ?_)⟩
    have : (cur.toList.take (ps.length * 64))[i]? = ((hs2 ps).flatten.map U8)[i]? := by rw [ht]
    rw [List.getElem?_take, if_pos (by omega)] at this
    rw [Nat.zero_add, ← Array.getElem?_toList, this, List.getElem?_map, List.getElem?_eq_getElem hi]; rfl
theorem hash_range {w : World} {g : Nat} {hs : List H8} (hl : ∀ x ∈ hs, x.length = 32) (hb : Bytes w g 0 hs.flatten) (i : Nat) (hi : i < hs.length) : w.rangeAt g (i * 32) (hs[i].map U8) := by
  have := ((hb.drop (32 * i)).take 32)
  rw [flat_get hs i hi hl, Nat.zero_add, Nat.mul_comm] at this
  exact this.range
theorem OwnP.elem {w : World} {B g cap n : Nat} {ps : List (H8 × H8)} (h : OwnP w B (.slice (some ⟨g, 0, none⟩) n cap) ps) (i : Nat) (hi : i < ps.length) :
    ps[i].1.length = 32 ∧ ps[i].2.length = 32 ∧ w.rangeAt g (i * 64) (ps[i].1.map U8) ∧ w.rangeAt g (i * 64 + 32) (ps[i].2.map U8) := by
  obtain ⟨g', cap', e, _, _, hb⟩ := h.at (by omega)
  injection e with e1 e2 e3
  injection e1 with e1
  injection e1 with e1
  subst e1
  have hg := hs2_get ps i hi
  have hl2 := hs2_length ps
  have h0 : 2 * i < (hs2 ps).length := by omega
  have h1 : 2 * i + 1 < (hs2 ps).length := by omega
  have e0 : (hs2 ps)[2 * i] = ps[i].1 := by have := hg.1; rw [List.getElem?_eq_getElem h0] at this; exact Option.some.inj this
  have e1' : (hs2 ps)[2 * i + 1] = ps[i].2 := by have := hg.2; rw [List.getElem?_eq_getElem h1] at this; exact Option.some.inj this
  have r0 := hash_range h.1 hb (2 * i) h0
  have r1 := hash_range h.1 hb (2 * i + 1) h1
  rw [e0, show 2 * i * 32 = i * 64 by omega] at r0
  rw [e1', show (2 * i + 1) * 32 = i * 64 + 32 by omega] at r1
  exact ⟨by rw [← e0]; exact h.1 _ (List.getElem_mem h0), by rw [← e1']; exact h.1 _ (List.getElem_mem h1), r0, r1⟩
/-- the pairs that a path lays beside one another, from the leaf up -/
def pairsOf (h : H8) : List Bool → List H8 → List (H8 × H8)
  | b :: s, x :: q => (if b then (x, h) else (h, x)) :: pairsOf (stepH h b x) s q
  | _, _ => []
theorem pairsOf_length : ∀ (s : List Bool) (q : List H8) (h : H8), s.length = q.length → (pairsOf h s q).length = q.length
  | [], [], _, _ => rfl
  | [], _ :: _, _, e => by cases e
  | _ :: _, [], _, e => by cases e
  | b :: s, x :: q, h, e => by rw [pairsOf, List.length_cons, List.length_cons, pairsOf_length s q _ (by simpa using e)]
theorem pairsOf_snoc : ∀ (s : List Bool) (q : List H8) (h : H8) (b : Bool) (x : H8), s.length = q.length → pairsOf h (s ++ [b]) (q ++ [x]) = pairsOf h s q ++ [if b then (x, climbH h s q) else (climbH h s q, x)]
  | [], [], _, _, _, _ => rfl
  | [], _ :: _, _, _, _, e => by cases e
  | _ :: _, [], _, _, _, e => by cases e
  | a :: s, y :: q, h, b, x, e => by
    simp only [List.cons_append, pairsOf, climbH]
    rw [pairsOf_snoc s q _ b x (by simpa using e)]
theorem pairsOf_take (h : H8) (s : List Bool) (q : List H8) (k : Nat) (hs : k < s.length) (hq : k < q.length) : pairsOf h (s.take (k + 1)) (q.take (k + 1)) = pairsOf h (s.take k) (q.take k) ++ [if s[k] then (q[k], climbH h (s.take k) (q.take k)) else (climbH h (s.take k) (q.take k), q[k])] := by
  rw [List.take_succ_eq_append_getElem hs, List.take_succ_eq_append_getElem hq]
  exact pairsOf_snoc _ _ _ _ _ (by simp; omega)
/-- a pair of a path -/
theorem pairsOf_get (h : H8) (s : List Bool) (q : List H8) (k : Nat) (hs : k < s.length) (hq : k < q.length) (e : s.length = q.length) : (pairsOf h s q)[k]? = some (if s[k] then (q[k], climbH h (s.take k) (q.take k)) else (climbH h (s.take k) (q.take k), q[k])) := by
  have h1 := pairsOf_take h s q k hs hq
  have h2 : ∀ n, k + 1 ≤ n → n ≤ s.length → (pairsOf h (s.take n) (q.take n))[k]? = (pairsOf h (s.take (k + 1)) (q.take (k + 1)))[k]? := by
    intro n hn
    induction n with
    | zero => omega
    | succ n ih =>
      intro hle
      by_cases hk : k + 1 ≤ n
      · rw [← ih hk (by omega), pairsOf_take h s q n (by omega) (by omega), List.getElem?_append_left (by rw [pairsOf_length _ _ _ (by simp; omega)]; simp; omega)]
      · obtain rfl : n = k := by omega
        rfl
  have h3 := h2 s.length (by omega) (Nat.le_refl _)
  rw [List.take_of_length_le (Nat.le_refl _), List.take_of_length_le (by omega)] at h3
  rw [h3, h1, List.getElem?_append_right (by rw [pairsOf_length _ _ _ (by simp; omega)]; simp; omega), pairsOf_length _ _ _ (by simp; omega)]
  simp [Nat.min_eq_left (Nat.le_of_lt hq)]
/-- what two paths of one place that end alike have in common: alike, or two pairs that clash -/
theorem binds_law (a b : H8) (s : List Bool) (p q : List H8) (hp : s.length = p.length) (hq : s.length = q.length) (he : climbH a s p = climbH b s q) (k : Nat) (hk : k < s.length)
    (hlater : ∀ j, k < j → (pairsOf a s p)[j]? = (pairsOf b s q)[j]?) : climbH a (s.take (k + 1)) (p.take (k + 1)) = climbH b (s.take (k + 1)) (q.take (k + 1)) := by
  by_cases h1 : k + 1 = s.length
  · rw [h1, List.take_of_length_le (Nat.le_refl _), List.take_of_length_le (by omega), List.take_of_length_le (by omega)]; exact he
  · have h2 := hlater (k + 1) (by omega)
    rw [pairsOf_get a s p (k + 1) (by omega) (by omega) hp, pairsOf_get b s q (k + 1) (by omega) (by omega) hq] at h2
    have h3 := Option.some.inj h2
    cases hb : s[k + 1]'(by omega) with
    | true => rw [hb] at h3; simpa using (Prod.mk.inj (by simpa using h3)).2
    | false => rw [hb] at h3; simpa using (Prod.mk.inj (by simpa using h3)).1
theorem binds_same : ∀ (s : List Bool) (a b : H8) (p q : List H8), s.length = p.length → s.length = q.length → climbH a s p = climbH b s q → pairsOf a s p = pairsOf b s q → a = b ∧ p = q
  | [], a, b, [], [], _, _, he, _ => ⟨by simpa [climbH] using he, rfl⟩
  | [], _, _, [], _ :: _, _, e, _, _ => by cases e
  | [], _, _, _ :: _, _, e, _, _, _ => by cases e
  | _ :: _, _, _, [], _, e, _, _, _ => by cases e
  | _ :: _, _, _, _ :: _, [], _, e, _, _ => by cases e
  | c :: s, a, b, x :: p, y :: q, h1, h2, he, hp => by
    simp only [pairsOf, climbH] at he hp
    have h3 := List.cons.inj hp
    cases c with
    | true =>
      have h4 := Prod.mk.inj (by simpa using h3.1)
      obtain ⟨_, h6⟩ := binds_same s _ _ p q (by simpa using h1) (by simpa using h2) he h3.2
      exact ⟨h4.2, by rw [h4.1, h6]⟩
    | false =>
      have h4 := Prod.mk.inj (by simpa using h3.1)
      obtain ⟨_, h6⟩ := binds_same s _ _ p q (by simpa using h1) (by simpa using h2) he h3.2
      exact ⟨h4.1, by rw [h4.2, h6]⟩
end Go.Proofs.YtdfoffheolbokaaDoor
