/-
  Rows of one's own, and rows that can be read, of elements of any size.
-/
import Derived.Test.YtjeddokenpkpnaaGen
namespace Go.Proofs.Ytjeddokenpkpnaa
open Go Go.RowKit Go.Proofs
abbrev Cs := List Value
theorem gflat_length {sz : Nat} : ∀ (ls : List Cs), (∀ x ∈ ls, x.length = sz) → ls.flatten.length = ls.length * sz
  | [], _ => by simp
  | x :: r, h => by
    have h1 := h x (by simp)
    have h2 := gflat_length r (fun y hy => h y (by simp [hy]))
    simp only [List.flatten_cons, List.length_append, List.length_cons, Nat.succ_mul]; omega
theorem gflat_drop {sz : Nat} : ∀ (ls : List Cs) (i : Nat), (∀ x ∈ ls, x.length = sz) → (ls.drop i).flatten = ls.flatten.drop (i * sz)
  | [], i, _ => by simp
  | x :: r, 0, _ => by simp
  | x :: r, i + 1, h => by
    have h1 := h x (by simp)
    rw [List.drop_succ_cons, gflat_drop r i (fun y hy => h y (by simp [hy])), List.flatten_cons, show (i + 1) * sz = x.length + i * sz by rw [Nat.succ_mul]; omega, List.drop_append, show x.drop (x.length + i * sz) = [] from List.drop_eq_nil_of_le (by omega), List.nil_append, Nat.add_sub_cancel_left]
theorem gflat_take {sz : Nat} (ls : List Cs) (i : Nat) (h : ∀ x ∈ ls, x.length = sz) : (ls.take i).flatten = ls.flatten.take (i * sz) := by
  have e2 : ls.flatten = (ls.take i).flatten ++ (ls.drop i).flatten := by rw [← List.flatten_append, List.take_append_drop]
  by_cases hi : i ≤ ls.length
  · have hl := gflat_length (ls.take i) (fun x hx => h x (List.mem_of_mem_take hx))
    rw [List.length_take, Nat.min_eq_left hi] at hl
    rw [e2, List.take_left' hl]
  · rw [List.take_of_length_le (by omega), List.take_of_length_le (by rw [gflat_length ls h]; exact Nat.mul_le_mul_right _ (by omega))]
theorem gflat_get {sz : Nat} (ls : List Cs) (i : Nat) (hi : i < ls.length) (h : ∀ x ∈ ls, x.length = sz) : (ls.flatten.drop (i * sz)).take sz = ls[i] := by
  rw [← gflat_drop ls i h, List.drop_eq_getElem_cons hi, List.flatten_cons, List.take_left' (h _ (List.getElem_mem _))]
theorem gflat_set {sz : Nat} (ls : List Cs) (k : Nat) (hk : k < ls.length) (y : Cs) (hl : ∀ x ∈ ls, x.length = sz) : (ls.set k y).flatten = ls.flatten.take (k * sz) ++ y ++ ls.flatten.drop (k * sz + sz) := by
  rw [List.set_eq_take_append_cons_drop, if_pos hk, List.flatten_append, List.flatten_cons, gflat_take ls k hl, gflat_drop ls (k + 1) hl, List.append_assoc, Nat.succ_mul]
/-- what is to be known of a type of elements -/
structure ElemT (P : Program) (t e : TypeId) (sz bytes : Nat) (z : Value) : Prop where
  ht : P.underlying t = some (.slice e)
  hi : ∃ i, P.info? e = some i ∧ i.zero = some z ∧ i.size = sz ∧ i.bytes = bytes
  hz : z.cells.size = sz
  pos : 0 < sz
  small : sz ≤ 1000000
theorem ElemT.mk' {P : Program} {t e : TypeId} {sz bytes : Nat} {z : Value} (ht : P.underlying t = some (.slice e)) (hi : (P.info? e).map (fun i => (i.zero, i.size, i.bytes)) = some (some z, sz, bytes)) (hz : z.cells.size = sz) (pos : 0 < sz) (small : sz ≤ 1000000) : ElemT P t e sz bytes z := by
  refine ⟨ht, ?_, hz, pos, small⟩
  cases hq : P.info? e with
  | none => rw [hq] at hi; cases hi
  | some i =>
    rw [hq] at hi
    simp only [Option.map_some, Option.some.injEq, Prod.mk.injEq] at hi
    exact ⟨i, rfl, hi.1, hi.2.1, hi.2.2⟩
/-- a row of one's own -/
def OwnA (w : World) (B : Nat) (e : TypeId) (sz : Nat) (v : Value) (rs : List Cs) : Prop := (∀ x ∈ rs, x.length = sz) ∧ w.ownsRow B e sz v rs.length rs.flatten
section
variable {w w' : World} {B : Nat} {e : TypeId} {sz : Nat} {v : Value} {rs : List Cs}
theorem OwnA.nil (w : World) (B : Nat) (e : TypeId) (sz : Nat) : OwnA w B e sz (.slice none 0 0) [] := ⟨by simp, World.ownsRow_nil w B e sz⟩
theorem OwnA.upd {S : List Nat} (h : OwnA w B e sz v rs) (u : Upd S w w') (hn : ∀ k, v.ownBlock = some k → k ∉ S) : OwnA w' B e sz v rs := ⟨h.1, own_upd h.2 u hn⟩
theorem OwnA.upd0 (h : OwnA w B e sz v rs) (u : Upd [] w w') : OwnA w' B e sz v rs := h.upd u (by simp)
theorem OwnA.lt (h : OwnA w B e sz v rs) : ∀ k, v.ownBlock = some k → B ≤ k ∧ k < w.heap.size := own_block h.2
theorem OwnA.mono {C : Nat} (h : OwnA w B e sz v rs) (hC : ∀ k, v.ownBlock = some k → C ≤ k) : OwnA w C e sz v rs := ⟨h.1, own_mono h.2 hC⟩
theorem OwnA.isSlice (h : OwnA w B e sz v rs) : ∃ a cap, v = .slice a rs.length cap := by
  rcases h.2.2 with ⟨rfl, h0⟩ | ⟨g, cap, cur, rfl, _⟩
  · exact ⟨none, 0, by rw [h0]⟩
  · exact ⟨_, cap, rfl⟩
/-- it lies in a block of its type -/
theorem OwnA.ne {g : Nat} {C : Array Value} {T : TypeId} {fr : Nat × Nat} (h : OwnA w B e sz v rs) (hg : w.heap[g]? = some (.cells C T fr)) (hT : T ≠ e) : v.ownBlock ≠ some g := by
  intro hk
  rcases h.2.2 with ⟨rfl, _⟩ | ⟨k, cap, cur, rfl, _, hb, _⟩
  · cases hk
  · simp only [Value.ownBlock, Option.some.injEq] at hk
    subst hk
    rw [hb] at hg
    injection hg with hg
    injection hg with _ hg
    exact hT hg.symm
theorem OwnA.ne_row {C : Nat} {e' : TypeId} {sz' n : Nat} {u : Value} {xs : List Value} (h : OwnA w B e sz v rs) (k : w.ownsRow C e' sz' u n xs) (hT : e' ≠ e) : ∀ g, u.ownBlock = some g → v.ownBlock ≠ some g := by
  intro g hg
  rcases k.2 with ⟨rfl, _⟩ | ⟨k, cap, cur, rfl, _, hb, _⟩
  · cases hg
  · simp only [Value.ownBlock, Option.some.injEq] at hg
    subst hg
    exact h.ne hb hT
theorem OwnA.at (h : OwnA w B e sz v rs) (hn : 0 < rs.length) : ∃ g cap cur, v = .slice (some ⟨g, 0, none⟩) rs.length cap ∧ B ≤ g ∧ w.heap[g]? = some (.cells cur e (0, 0)) ∧ rs.length ≤ cap ∧ cap ≤ maxLen ∧ cur.size = cap * sz ∧ cur.toList.take (rs.length * sz) = rs.flatten := by
  rcases h.2.2 with ⟨rfl, h0⟩ | ⟨g, cap, cur, e1, h1, h2, h3, h4, h5, h6⟩
  · omega
  · exact ⟨g, cap, cur, e1, h1, h2, h3, h4, h5, h6⟩
theorem OwnA.elem {g n cap : Nat} (h : OwnA w B e sz (.slice (some ⟨g, 0, none⟩) n cap) rs) (i : Nat) (hi : i < rs.length) : w.rangeAt g (i * sz) rs[i] := by
  obtain ⟨g', cap', cur, e1, _, hh, hn, _, hs, ht⟩ := h.at (by omega)
  injection e1 with e1 e2 e3
  injection e1 with e1
  injection e1 with e1
  subst e1
  have hh' : w.heap[g]? = some (.cells cur.toList.toArray e (0, 0)) := by simpa using hh
  refine range_of_row hh' (i * sz) _ ⟨cur.toList.take (i * sz), cur.toList.drop (i * sz + sz), ?_, ?_⟩
  · have h1 := gflat_get rs i hi h.1
    have h3 : i * sz + sz ≤ rs.length * sz := by rw [← Nat.succ_mul]; exact Nat.mul_le_mul_right _ hi
    rw [← ht, List.drop_take, List.take_take, Nat.min_eq_left (by omega)] at h1
    rw [← h1, ← List.drop_drop, List.append_assoc, List.take_append_drop, List.take_append_drop]
  · rw [List.length_take, Array.length_toList, hs, Nat.min_eq_left (Nat.mul_le_mul_right _ (by omega))]
/-- an element is written over -/
theorem OwnA.set {g n cap : Nat} (h : OwnA w B e sz (.slice (some ⟨g, 0, none⟩) n cap) rs) (k : Nat) (hk : k < rs.length) (y : Cs) (hy : y.length = sz) :
    w.there g (k * sz) sz ∧ OwnA (w.setCells g (k * sz) y) B e sz (.slice (some ⟨g, 0, none⟩) n cap) (rs.set k y) := by
  obtain ⟨g', cap', cur, e1, hb, hh, hn, hm, hs, ht⟩ := h.at (by omega)
  obtain ⟨hl, hx, _⟩ := h
  injection e1 with e1 e2 e3
  injection e1 with e1
  injection e1 with e1
  subst e1 e2 e3
  have hkn : k * sz + sz ≤ rs.length * sz := by rw [← Nat.succ_mul]; exact Nat.mul_le_mul_right _ hk
  have hnc : rs.length * sz ≤ cap * sz := Nat.mul_le_mul_right _ hn
  have hcl : cur.toList.length = cap * sz := by simpa using hs
  have hh' : w.heap[g]? = some (.cells cur.toList.toArray e (0, 0)) := by simpa using hh
  have hset : ∀ z ∈ rs.set k y, z.length = sz := fun z hz => by
    rcases List.mem_or_eq_of_mem_set hz with hz | rfl
    · exact hl z hz
    · exact hy
  refine ⟨there_of_row hh' _ _ (by rw [hcl]; omega), hset, by rw [gflat_length _ hset], .inr ⟨g, cap, (splice cur.toList (k * sz) y).toArray, by simp, hb, setCells_heap g _ _ w cur.toList (by rw [hy, hcl]; omega) hh', by simpa using hn, hm, ?_, ?_⟩⟩
  · simp only [splice, List.size_toArray, List.length_append, List.length_take, List.length_drop, hcl, hy]; omega
  · have e1 : rs.flatten.take (k * sz) = cur.toList.take (k * sz) := by rw [← ht, List.take_take, Nat.min_eq_left (by omega)]
    have e2 : rs.flatten.drop (k * sz + sz) = (cur.toList.drop (k * sz + sz)).take (rs.length * sz - (k * sz + sz)) := by rw [← ht, List.drop_take]
    rw [gflat_set rs k hk y hl, e1, e2]
    simp only [splice, List.length_set, hy]
    rw [List.take_append, List.take_append, List.take_of_length_le (l := cur.toList.take (k * sz)) (by simp; omega), List.take_of_length_le (l := y) (by simp [hy]; omega)]
    rw [show (cur.toList.take (k * sz)).length = k * sz by rw [List.length_take, hcl]; omega, hy, show rs.length * sz - k * sz - sz = rs.length * sz - (k * sz + sz) by omega, List.append_assoc]
end
section
variable {P : Program} {ops : Array Oper} {rest : List Oper} {a : Act} {w : World} {Q : Exit → Act → World → Prop} {dst : Option Tmp} {type : TypeId} {pos : String} {after : Array Edge} {t e : TypeId} {sz bytes : Nat} {z : Value}
/-- one element, laid into a new block -/
theorem bsA {x1 : Operand} {cs : Array Value} (E : ElemT P t e sz bytes z) (hcs : cs.size = sz) (h1 : a.eval x1 = .agg cs)
    (h : ∀ g w', w.heap.size = g → w'.heap[g]? = some (.cells cs e (0, 0)) → Upd [] w w' → wpList P ops Q rest (a.put dst (.slice (some ⟨g, 0, none⟩) 1 1)) w') :
    wpList P ops Q (⟨dst, .buildSlice t 1 #[(0, x1)], type, pos, after, none⟩ :: rest) a w := by
  obtain ⟨i, hi, hz, hs, hby⟩ := E.hi
  have hp := E.pos
  refine wpList_buildSlice rfl t e 1 _ rfl cs i z E.ht hi hz (by rw [hs]; have := E.small; omega) (by rw [hs]; omega) ?_ (h _ _ rfl (hget_new rfl) ((Upd.refl _ w).alloc _))
  have := Great.fill_whole (s := sz) hp [.agg cs] ((Array.range (1 * i.size)).map (z.cells[· % z.cells.size]!)) (fun v hv => by rw [List.mem_singleton.1 hv]; simp [Value.cells, hcs]) (by rw [hs]; simp)
  simp only [List.map_toArray, List.map_cons, List.map_nil, h1, hs]
  rw [hs] at this
  simpa [Value.cells] using this
/-- one element more behind a row of them -/
theorem appendA {s x : Operand} {B g : Nat} {v : Value} {rs : List Cs} {y : Cs} {T : TypeId} {fr : Nat × Nat} (E : ElemT P t e sz bytes z)
    (hs : a.eval s = v) (hx : a.eval x = .slice (some ⟨g, 0, none⟩) 1 1) (hown : OwnA w B e sz v rs) (hg : w.heap[g]? = some (.cells y.toArray T fr)) (hy : y.length = sz) (hy1 : ∀ u ∈ y, u.oneCell' = true) (hl : rs.length ≤ 1000000) (hb : bytes ≤ 100000000) (hbase : B ≤ w.heap.size)
    (h : ∀ v' w', OwnA w' B e sz v' (rs ++ [y]) → Upd v.ownBlock.toList w w' → (v'.ownBlock = v.ownBlock ∨ v'.ownBlock = some w.heap.size) → wpList P ops Q rest (a.put dst v') w') :
    wpList P ops Q (⟨dst, .call { callee := .builtin .append, args := #[s, x], argTypes := #[t, t] }, type, pos, after, none⟩ :: rest) a w := by
  obtain ⟨i, hi, hz, hsz, hby⟩ := E.hi
  refine arm_append1w E.ht hi hz hsz hby E.hz E.pos hs hx hown.2 hg hy hy1 (by simp only [maxLen]; omega) ?_ hbase (fun v' w' h1 h2 h3 => h v' w' ⟨fun z hz => ?_, ?_⟩ h2 h3)
  · have := Nat.mul_le_mul (show rs.length + 1 ≤ 1000001 by omega) hb
    omega
  · rcases List.mem_append.1 hz with hz | hz
    · exact hown.1 z hz
    · rw [List.mem_singleton.1 hz]; exact hy
  · rw [List.length_append, List.flatten_append]
    simpa using h1
end
/-- a slice that can be read -/
def RdA (w : World) (sz : Nat) (v : Value) (ls : List Cs) : Prop := (∀ x ∈ ls, x.length = sz) ∧ ∃ A c, v = .slice A ls.length c ∧ ls.length ≤ c ∧ c ≤ maxLen ∧ (0 < ls.length → ∃ g p, A = some ⟨g, p, none⟩ ∧ w.rangeAt g p ls.flatten)
section
variable {w w' : World} {sz : Nat} {v : Value} {ls : List Cs}
theorem RdA.nil (w : World) (sz : Nat) : RdA w sz (.slice none 0 0) [] := ⟨by simp, none, 0, rfl, Nat.le_refl _, by simp [maxLen], fun h => by simp at h⟩
theorem RdA.isSlice (h : RdA w sz v ls) : ∃ A c, v = .slice A ls.length c ∧ ls.length ≤ c ∧ c ≤ maxLen := by
  obtain ⟨_, A, c, e, h1, h2, _⟩ := h; exact ⟨A, c, e, h1, h2⟩
theorem rangeAt_upd {S : List Nat} {g p : Nat} {cs : List Value} (h : w.rangeAt g p cs) (u : Upd S w w') (hn : g ∉ S) : w'.rangeAt g p cs := fun j x hj => u.cell (h j x hj) hn
theorem RdA.upd {S : List Nat} (h : RdA w sz v ls) (u : Upd S w w') (hn : 0 < ls.length → ∀ k, v.ownBlock = some k → k ∉ S) : RdA w' sz v ls := by
  obtain ⟨hl, A, c, rfl, h1, h2, h3⟩ := h
  refine ⟨hl, A, c, rfl, h1, h2, fun hp => ?_⟩
  obtain ⟨g, p, rfl, hb⟩ := h3 hp
  exact ⟨g, p, rfl, rangeAt_upd hb u (hn hp g rfl)⟩
theorem RdA.upd0 (h : RdA w sz v ls) (u : Upd [] w w') : RdA w' sz v ls := h.upd u (by simp)
theorem RdA.at (h : RdA w sz v ls) (hn : 0 < ls.length) : ∃ g p c, v = .slice (some ⟨g, p, none⟩) ls.length c ∧ ls.length ≤ c ∧ c ≤ maxLen ∧ w.rangeAt g p ls.flatten := by
  obtain ⟨_, A, c, rfl, h1, h2, h3⟩ := h
  obtain ⟨g, p, rfl, hb⟩ := h3 hn
  exact ⟨g, p, c, rfl, h1, h2, hb⟩
theorem RdA.elem {g p n c : Nat} (h : RdA w sz (.slice (some ⟨g, p, none⟩) n c) ls) (i : Nat) (hi : i < ls.length) : w.rangeAt g (p + i * sz) ls[i] := by
  obtain ⟨g', p', c', e, _, _, hb⟩ := h.at (by omega)
  injection e with e1 e2 e3
  injection e1 with e1
  injection e1 with e1 e4
  subst e1 e4
  have h1 := gflat_get ls i hi h.1
  intro j x hj
  rw [← h1] at hj
  have hj2 : j < sz := by
    have := (List.getElem?_eq_some_iff.1 hj).1
    rw [List.length_take] at this
    omega
  rw [List.getElem?_take, if_pos hj2, List.getElem?_drop] at hj
  have := hb (i * sz + j) x hj
  rwa [← Nat.add_assoc] at this
theorem OwnA.rd {B : Nat} {e : TypeId} (h : OwnA w B e sz v ls) : RdA w sz v ls := by
  rcases Nat.eq_zero_or_pos ls.length with h0 | h0
  · have hn : ls = [] := List.eq_nil_of_length_eq_zero h0
    subst hn
    rcases h.2.2 with ⟨rfl, _⟩ | ⟨g, cap, cur, rfl, _, _, hn, hm, _⟩
    · exact RdA.nil w sz
    · exact ⟨h.1, _, cap, rfl, hn, hm, fun h => by simp at h⟩
  · obtain ⟨g, cap, cur, rfl, _, hh, hn, hm, hs, ht⟩ := h.at h0
    have hh' : w.heap[g]? = some (.cells cur.toList.toArray e (0, 0)) := by simpa using hh
    exact ⟨h.1, _, cap, rfl, hn, hm, fun _ => ⟨g, 0, rfl, range_of_row hh' 0 _ ⟨[], cur.toList.drop (ls.length * sz), by rw [← ht, List.nil_append, List.take_append_drop], rfl⟩⟩⟩
end
end Go.Proofs.Ytjeddokenpkpnaa
