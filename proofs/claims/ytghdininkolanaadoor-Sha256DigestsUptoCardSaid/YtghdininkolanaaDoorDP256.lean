/-
  The law's pairs: a Digest, what was written to it, the hand; a row of them.
-/
import Derived.Test.YtghdininkolanaaDoorDigSum256
import Derived.Test.YtghdininkolanaaDoorGen
namespace Go.Proofs.YtghdininkolanaaDoor
open Go Go.RowKit Go.Proofs
/-- one element of a row of one's own is written over -/
theorem own_setN {w : World} {B : Nat} {e : TypeId} {size g cap n : Nat} {xs : List Value} (h : w.ownsRow B e size (.slice (some ⟨g, 0, none⟩) n cap) n xs) (k : Nat) (hk : k < n) (ys : List Value) (hy : ys.length = size) :
    w.there g (k * size) size ∧ (w.setCells g (k * size) ys).ownsRow B e size (.slice (some ⟨g, 0, none⟩) n cap) n (splice xs (k * size) ys) := by
  obtain ⟨hx, h2⟩ := h
  rcases h2 with ⟨e0, h0⟩ | ⟨g', cap', cur, e0, hb, hh, hn, hm, hs, ht⟩
  · omega
  · injection e0 with e1 e2 e3
    injection e1 with e1
    injection e1 with e1
    subst e1 e3
    have hcl : cur.toList.length = cap * size := by simpa using hs
    have hh' : w.heap[g]? = some (.cells cur.toList.toArray e (0, 0)) := by simpa using hh
    have h1 : k * size + size ≤ n * size := by rw [← Nat.succ_mul]; exact Nat.mul_le_mul_right _ hk
    have h3 : n * size ≤ cap * size := Nat.mul_le_mul_right _ hn
    have hxs : cur.toList.take (n * size) = xs := ht
    refine ⟨there_of_row hh' _ _ (by rw [hcl]; omega), ?_, .inr ⟨g, cap, (splice cur.toList (k * size) ys).toArray, rfl, hb, setCells_heap g _ _ w cur.toList (by omega) hh', hn, hm, ?_, ?_⟩⟩
    · simp only [splice, List.length_append, List.length_take, List.length_drop, hx, hy]; omega
    · simp only [splice, List.size_toArray, List.length_append, List.length_take, List.length_drop, hcl, hy]; omega
    · simp only [splice, hy]
      rw [← hxs, List.take_take, Nat.min_eq_left (by omega), List.take_append, List.take_append, List.take_of_length_le (l := cur.toList.take (k * size)) (by simp; omega), List.take_of_length_le (l := ys) (by simp; omega), List.drop_take]
      simp only [List.length_take]
      rw [show n * size - min (k * size) cur.toList.length - ys.length = n * size - (k * size + size) by omega]
structure DPair where
  D : Nat
  a : Value
  h : Value
  m : List (BitVec 8)
def DPair.cells (p : DPair) : List Value := [.pointer (some ⟨p.D, 0, none⟩), p.a, p.h]
def dCells (ps : List DPair) : List Value := ps.flatMap DPair.cells
theorem dCells_length : ∀ (ps : List DPair), (dCells ps).length = ps.length * 3
  | [] => rfl
  | p :: ps => by
    have h1 := dCells_length ps
    simp only [dCells, List.flatMap_cons, List.length_append, List.length_cons, DPair.cells, List.length_nil] at h1 ⊢
    omega
theorem dCells_get : ∀ (ps : List DPair) (i j : Nat) (hi : i < ps.length), j < 3 → (dCells ps)[i * 3 + j]? = (ps[i].cells)[j]?
  | p :: ps, 0, j, _, hj => by
    simp only [dCells, List.flatMap_cons, List.getElem_cons_zero]
    rw [List.getElem?_append_left (by simp [DPair.cells]; omega)]
    simp
  | p :: ps, i + 1, j, hi, hj => by
    have h1 := dCells_get ps i j (by simpa using hi) hj
    simp only [dCells, List.flatMap_cons, List.getElem_cons_succ] at h1 ⊢
    rw [List.getElem?_append_right (by simp [DPair.cells]; omega), ← h1]
    congr 1
    simp only [DPair.cells, List.length_cons, List.length_nil]
    omega
theorem dCells_set : ∀ (ps : List DPair) (k : Nat) (p : DPair), k < ps.length → dCells (ps.set k p) = splice (dCells ps) (k * 3) p.cells
  | q :: ps, 0, p, _ => by simp [dCells, splice, DPair.cells]
  | q :: ps, k + 1, p, h => by
    have h1 := dCells_set ps k p (by simpa using h)
    simp only [dCells, splice, List.flatMap_cons, List.set_cons_succ] at h1 ⊢
    have e3 : q.cells.length = 3 := rfl
    rw [h1, show (k + 1) * 3 = q.cells.length + k * 3 by omega, List.take_length_add_append, Nat.add_assoc, List.drop_length_add_append]
    simp
/-- one pair: its Digest, what was written, the hand -/
structure PairOk (w : World) (B : Nat) (p : DPair) : Prop where
  dig : DigOf256 w p.D p.m
  old : B ≤ p.D
  all : OwnB w B p.a p.m
  hand : ∃ q, OwnB w B p.h q
/-- a row of pairs of one's own -/
structure Pairs (w : World) (B : Nat) (lv : Value) (ps : List DPair) : Prop where
  row : w.ownsRow B 27 3 lv ps.length (dCells ps)
  one : 1 ≤ ps.length
  ok : ∀ i (h : i < ps.length), PairOk w B ps[i]
  dd : ∀ i j (hi : i < ps.length) (hj : j < ps.length), i ≠ j → ps[i].D ≠ ps[j].D
  hh : ∀ i j (hi : i < ps.length) (hj : j < ps.length), i ≠ j → ∀ g, ps[i].h.ownBlock = some g → ps[j].h.ownBlock ≠ some g
  ha : ∀ i j (hi : i < ps.length) (hj : j < ps.length), ∀ g, ps[i].h.ownBlock = some g → ps[j].a.ownBlock ≠ some g
theorem PairOk.upd {w w' : World} {B : Nat} {p : DPair} {S : List Nat} (h : PairOk w B p) (u : Upd S w w') (h1 : p.D ∉ S) (h2 : ∀ g, p.a.ownBlock = some g → g ∉ S) (h3 : ∀ g, p.h.ownBlock = some g → g ∉ S) : PairOk w' B p := by
  obtain ⟨q, hq⟩ := h.hand
  exact ⟨h.dig.upd u h1, h.old, h.all.upd u h2, q, hq.upd u h3⟩
theorem DigOf256.lt {w : World} {D : Nat} {m : List (BitVec 8)} (h : DigOf256 w D m) : D < w.heap.size := by obtain ⟨_, _, ⟨_, h⟩, _⟩ := h; exact lt_of_heap h
theorem own_dig256 {w : World} {B D : Nat} {v : Value} {l m : List (BitVec 8)} (h : OwnB w B v l) (hd : DigOf256 w D m) : v.ownBlock ≠ some D := by
  obtain ⟨s, r, ⟨_, hb⟩, _⟩ := hd
  rcases h.2 with ⟨rfl, _⟩ | ⟨g, cap, cur, rfl, _, hg, _⟩
  · simp [Value.ownBlock]
  · intro he
    simp [Value.ownBlock] at he
    subst he
    rw [hg] at hb
    injection hb with hb
    injection hb with _ ht
    exact absurd ht (by decide)
theorem Pairs.at {w : World} {B : Nat} {lv : Value} {ps : List DPair} (h : Pairs w B lv ps) : ∃ g cap, lv = .slice (some ⟨g, 0, none⟩) ps.length cap ∧ B ≤ g ∧ g < w.heap.size ∧ ps.length ≤ cap ∧ cap ≤ maxLen ∧ (∃ cur, w.heap[g]? = some (.cells cur 27 (0, 0))) := by
  have h1 := h.one
  rcases h.row.2 with ⟨_, h0⟩ | ⟨g, cap, cur, rfl, hb, hh, hn', hm, hs, ht⟩
  · omega
  · exact ⟨g, cap, rfl, hb, lt_of_heap hh, hn', hm, cur, hh⟩
theorem own_pair {w : World} {B g : Nat} {v : Value} {l : List (BitVec 8)} (h : OwnB w B v l) {cur : Array Value} (hb : w.heap[g]? = some (.cells cur 27 (0, 0))) : v.ownBlock ≠ some g := by
  rcases h.2 with ⟨rfl, _⟩ | ⟨g', cap, cur', rfl, _, hg, _⟩
  · simp [Value.ownBlock]
  · intro he
    simp [Value.ownBlock] at he
    subst he
    rw [hg] at hb
    injection hb with hb
    injection hb with _ ht
    exact absurd ht (by decide)
theorem dig_pair {w : World} {D g : Nat} {m : List (BitVec 8)} (hd : DigOf256 w D m) {cur : Array Value} (hb : w.heap[g]? = some (.cells cur 27 (0, 0))) : D ≠ g := by
  obtain ⟨s, r, ⟨_, h1⟩, _⟩ := hd
  rintro rfl
  rw [h1] at hb
  injection hb with hb
  injection hb with _ ht
  exact absurd ht (by decide)
theorem Pairs.elem {w : World} {B g cap n : Nat} {ps : List DPair} (h : Pairs w B (.slice (some ⟨g, 0, none⟩) n cap) ps) (i : Nat) (hi : i < ps.length) : w.rangeAt g (i * 3) ps[i].cells := by
  rcases h.row.2 with ⟨_, h0⟩ | ⟨g', cap', cur, e, hb, hh, hn', hm, hs, ht⟩
  · omega
  · injection e with e1 e2 e3
    injection e1 with e1
    injection e1 with e1
    subst e1
    intro j v hj
    have hjl : j < ps[i].cells.length := (List.getElem?_eq_some_iff.1 hj).1
    have h3 : ps[i].cells.length = 3 := rfl
    rw [cell_of_row _ _ _ _ _ _ hh, ← hj, ← dCells_get ps i j hi (by omega), ← ht, List.getElem?_take, if_pos (by omega), Array.getElem?_toList]
theorem PairOk.cells1 {w : World} {B : Nat} {p : DPair} (h : PairOk w B p) : ∀ u ∈ p.cells, u.oneCell' = true := by
  obtain ⟨q, hq⟩ := h.hand
  obtain ⟨A, c, e⟩ := h.all.isSlice
  obtain ⟨A2, c2, e2⟩ := hq.isSlice
  intro u hu
  simp only [DPair.cells, List.mem_cons, List.not_mem_nil, or_false] at hu
  rcases hu with rfl | rfl | rfl
  · rfl
  · rw [e]; rfl
  · rw [e2]; rfl
/-- all is kept where nothing but new blocks changes -/
theorem Pairs.upd0 {w w' : World} {B : Nat} {lv : Value} {ps : List DPair} (h : Pairs w B lv ps) (u : Upd [] w w') : Pairs w' B lv ps :=
  ⟨own_upd h.row u (by simp), h.one, fun i hi => (h.ok i hi).upd u (by simp) (by simp) (by simp), h.dd, h.hh, h.ha⟩
/-- one pair is written over: its Digest stays, what was written and the hand lie where they lay or in new blocks -/
theorem Pairs.set {w w' : World} {B k g : Nat} {lv : Value} {ps : List DPair} {p : DPair} {S : List Nat} (h : Pairs w B lv ps) (hk : k < ps.length) (hlv : lv.ownBlock = some g) (u : Upd S w w')
    (hS : ∀ i ∈ S, i = ps[k].D ∨ ps[k].h.ownBlock = some i ∨ i = g) (row : w'.ownsRow B 27 3 lv ps.length (dCells (ps.set k p))) (ok : PairOk w' B p) (hD : p.D = ps[k].D)
    (hA : ∀ j, p.a.ownBlock = some j → ps[k].a.ownBlock = some j ∨ w.heap.size ≤ j) (hH : ∀ j, p.h.ownBlock = some j → ps[k].h.ownBlock = some j ∨ w.heap.size ≤ j) (hHA : ∀ j, p.h.ownBlock = some j → p.a.ownBlock ≠ some j) : Pairs w' B lv (ps.set k p) := by
  obtain ⟨g', cap, e, _, _, _, _, cur, hcur⟩ := h.at
  have hg' : g' = g := by rw [e] at hlv; simpa [Value.ownBlock] using hlv
  subst hg'
  have hlt : ∀ i (hi : i < ps.length), (∀ j, ps[i].a.ownBlock = some j → j < w.heap.size) ∧ (∀ j, ps[i].h.ownBlock = some j → j < w.heap.size) := fun i hi => by
    obtain ⟨q, hq⟩ := (h.ok i hi).hand
    exact ⟨fun j hj => ((h.ok i hi).all.lt j hj).2, fun j hj => (hq.lt j hj).2⟩
  have get : ∀ i (hi : i < (ps.set k p).length), (i = k ∧ (ps.set k p)[i] = p) ∨ (i ≠ k ∧ ∃ hi' : i < ps.length, (ps.set k p)[i] = ps[i]) := fun i hi => by
    have hi' : i < ps.length := by simpa using hi
    by_cases hik : i = k
    · subst hik; exact .inl ⟨rfl, by simp⟩
    · exact .inr ⟨hik, hi', by rw [List.getElem_set_ne (fun e => hik e.symm)]⟩
  refine ⟨by simpa using row, by simpa using h.one, fun i hi => ?_, fun i j hi hj hij => ?_, fun i j hi hj hij b hb => ?_, fun i j hi hj b hb => ?_⟩
  · rcases get i hi with ⟨_, e⟩ | ⟨hik, hi', e⟩
    · rw [e]; exact ok
    · rw [e]
      obtain ⟨q, hq⟩ := (h.ok i hi').hand
      obtain ⟨qk, hqk⟩ := (h.ok k hk).hand
      refine (h.ok i hi').upd u (fun hm => ?_) (fun b hb hm => ?_) (fun b hb hm => ?_)
      · rcases hS _ hm with e1 | e1 | e1
        · exact h.dd i k hi' hk hik e1
        · exact own_dig256 hqk (h.ok i hi').dig e1
        · exact dig_pair (h.ok i hi').dig hcur e1
      · rcases hS _ hm with e1 | e1 | e1
        · exact own_dig256 (h.ok i hi').all (h.ok k hk).dig (by rw [hb, e1])
        · exact h.ha k i hk hi' b e1 hb
        · exact own_pair (h.ok i hi').all hcur (by rw [hb, e1])
      · rcases hS _ hm with e1 | e1 | e1
        · exact own_dig256 hq (h.ok k hk).dig (by rw [hb, e1])
        · exact h.hh i k hi' hk hik b hb e1
        · exact own_pair hq hcur (by rw [hb, e1])
  · rcases get i hi with ⟨ei, e1⟩ | ⟨hik, hi', e1⟩ <;> rcases get j hj with ⟨ej, e2⟩ | ⟨hjk, hj', e2⟩
    · omega
    · rw [e1, e2, hD]; exact h.dd k j hk hj' (by omega)
    · rw [e1, e2, hD]; exact h.dd i k hi' hk (by omega)
    · rw [e1, e2]; exact h.dd i j hi' hj' hij
  · rcases get i hi with ⟨ei, e1⟩ | ⟨hik, hi', e1⟩ <;> rcases get j hj with ⟨ej, e2⟩ | ⟨hjk, hj', e2⟩
    · omega
    · rw [e2]; rw [e1] at hb
      rcases hH b hb with h1 | h1
      · exact h.hh k j hk hj' (by omega) b h1
      · intro h2; have := (hlt j hj').2 b h2; omega
    · rw [e2]; rw [e1] at hb
      intro h2
      rcases hH b h2 with h1 | h1
      · exact h.hh i k hi' hk (by omega) b hb h1
      · have := (hlt i hi').2 b hb; omega
    · rw [e2]; rw [e1] at hb; exact h.hh i j hi' hj' hij b hb
  · rcases get i hi with ⟨ei, e1⟩ | ⟨hik, hi', e1⟩ <;> rcases get j hj with ⟨ej, e2⟩ | ⟨hjk, hj', e2⟩
    · rw [e2]; rw [e1] at hb; exact hHA b hb
    · rw [e2]; rw [e1] at hb
      rcases hH b hb with h1 | h1
      · exact h.ha k j hk hj' b h1
      · intro h2; have := (hlt j hj').1 b h2; omega
    · rw [e2]; rw [e1] at hb
      intro h2
      rcases hA b h2 with h1 | h1
      · exact h.ha i k hi' hk b hb h1
      · have := (hlt i hi').2 b hb; omega
    · rw [e2]; rw [e1] at hb; exact h.ha i j hi' hj' b hb
/-- a twin is laid behind them -/
theorem Pairs.twin {w w' : World} {B k : Nat} {lv lv' : Value} {ps : List DPair} {p : DPair} {S : List Nat} (h : Pairs w B lv ps) (hk : k < ps.length) (u : Upd S w w') (hS : ∀ i ∈ S, lv.ownBlock = some i ∨ w.heap.size ≤ i)
    (row : w'.ownsRow B 27 3 lv' (ps.length + 1) (dCells (ps ++ [p]))) (dig : DigOf256 w' p.D ps[k].m) (hm : p.m = ps[k].m) (hB : B ≤ w.heap.size) (hD : w.heap.size ≤ p.D) (hA : p.a = ps[k].a) (hH : p.h = .slice none 0 0) : Pairs w' B lv' (ps ++ [p]) := by
  obtain ⟨g', cap, e, _, _, _, _, cur, hcur⟩ := h.at
  have hSg : ∀ i ∈ S, i = g' ∨ w.heap.size ≤ i := fun i hi => by
    rcases hS i hi with h1 | h1
    · rw [e] at h1
      simp only [Value.ownBlock, Option.some.injEq] at h1
      exact .inl h1.symm
    · exact .inr h1
  have keep : ∀ i (hi : i < ps.length), PairOk w' B ps[i] := fun i hi => by
    obtain ⟨q, hq⟩ := (h.ok i hi).hand
    refine (h.ok i hi).upd u (fun hm => ?_) (fun b hb hm => ?_) (fun b hb hm => ?_)
    · rcases hSg _ hm with e1 | e1
      · exact dig_pair (h.ok i hi).dig hcur e1
      · have := (h.ok i hi).dig.lt; omega
    · rcases hSg _ hm with e1 | e1
      · exact own_pair (h.ok i hi).all hcur (by rw [hb, e1])
      · have := ((h.ok i hi).all.lt b hb).2; omega
    · rcases hSg _ hm with e1 | e1
      · exact own_pair hq hcur (by rw [hb, e1])
      · have := (hq.lt b hb).2; omega
  have get : ∀ i (hi : i < (ps ++ [p]).length), (i = ps.length ∧ (ps ++ [p])[i] = p) ∨ (∃ hi' : i < ps.length, (ps ++ [p])[i] = ps[i]) := fun i hi => by
    by_cases hik : i < ps.length
    · exact .inr ⟨hik, by rw [List.getElem_append_left hik]⟩
    · have : i = ps.length := by simp at hi; omega
      subst this
      exact .inl ⟨rfl, by simp⟩
  refine ⟨by simpa using row, by simp, fun i hi => ?_, fun i j hi hj hij => ?_, fun i j hi hj hij b hb => ?_, fun i j hi hj b hb => ?_⟩
  · rcases get i hi with ⟨_, e1⟩ | ⟨hi', e1⟩
    · rw [e1]
      exact ⟨by rw [hm]; exact dig, by omega, by rw [hA, hm]; exact (keep k hk).all, [], by rw [hH]; exact OwnB.nil _ _⟩
    · rw [e1]; exact keep i hi'
  · rcases get i hi with ⟨ei, e1⟩ | ⟨hi', e1⟩ <;> rcases get j hj with ⟨ej, e2⟩ | ⟨hj', e2⟩
    · omega
    · rw [e1, e2]; have := (h.ok j hj').dig.lt; omega
    · rw [e1, e2]; have := (h.ok i hi').dig.lt; omega
    · rw [e1, e2]; exact h.dd i j hi' hj' hij
  · rcases get i hi with ⟨ei, e1⟩ | ⟨hi', e1⟩ <;> rcases get j hj with ⟨ej, e2⟩ | ⟨hj', e2⟩
    · omega
    · rw [e1, hH] at hb; cases hb
    · rw [e2, hH]; exact fun h => by cases h
    · rw [e2]; rw [e1] at hb; exact h.hh i j hi' hj' hij b hb
  · rcases get i hi with ⟨ei, e1⟩ | ⟨hi', e1⟩ <;> rcases get j hj with ⟨ej, e2⟩ | ⟨hj', e2⟩
    · rw [e1, hH] at hb; cases hb
    · rw [e1, hH] at hb; cases hb
    · rw [e2, hA]; rw [e1] at hb; exact h.ha i k hi' hk b hb
    · rw [e2]; rw [e1] at hb; exact h.ha i j hi' hj' b hb
end Go.Proofs.YtghdininkolanaaDoor
