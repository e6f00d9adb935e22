/-
  Rows of the call's own: what append, make and a store do to them, and what the elder names of a row still hold behind an append.
-/
import Derived.Test.YtjeddokenpkpnaaMem
import Derived.Maps.AppendAt
import Derived.Deep.DeepAppendRoom
import Derived.Laws.OwnMore
namespace Go.Proofs.Ytjeddokenpkpnaa
open Go Go.RowKit

/-- the value, where it has memory, lies in no block of S and below h -/
theorem own_block {w : World} {B : Nat} {e : TypeId} {size : Nat} {v : Value} {n : Nat} {xs : List Value} (h : w.ownsRow B e size v n xs) : ∀ k, v.ownBlock = some k → B ≤ k ∧ k < w.heap.size := h.lt
/-- a row is kept where its own block is -/
theorem own_upd {w w' : World} {B : Nat} {e : TypeId} {size : Nat} {v : Value} {n : Nat} {xs : List Value} {S : List Nat} (h : w.ownsRow B e size v n xs) (u : Upd S w w') (hn : ∀ k, v.ownBlock = some k → k ∉ S) : w'.ownsRow B e size v n xs := by
  obtain ⟨h1, h2⟩ := h
  refine ⟨h1, ?_⟩
  rcases h2 with h2 | ⟨g, cap, cur, rfl, hb, hh, r⟩
  · exact .inl h2
  · exact .inr ⟨g, cap, cur, rfl, hb, u.heap hh (hn g rfl), r⟩
theorem own_drew {w : World} {B : Nat} {e : TypeId} {size : Nat} {v : Value} {n : Nat} {xs : List Value} (h : w.ownsRow B e size v n xs) (m : Nat) : (w.drewN m).ownsRow B e size v n xs := h
theorem own_alloc {w : World} {B : Nat} {e : TypeId} {size : Nat} {v : Value} {n : Nat} {xs : List Value} (h : w.ownsRow B e size v n xs) (o : Obj) : (w.alloc o).ownsRow B e size v n xs :=
  own_upd h ((Upd.refl [] w).alloc o) (by simp)
theorem own_mono {w : World} {B C : Nat} {e : TypeId} {size : Nat} {v : Value} {n : Nat} {xs : List Value} (h : w.ownsRow B e size v n xs) (hC : ∀ k, v.ownBlock = some k → C ≤ k) : w.ownsRow C e size v n xs := by
  obtain ⟨h1, h2⟩ := h
  refine ⟨h1, ?_⟩
  rcases h2 with h2 | ⟨g, cap, cur, rfl, hb, r⟩
  · exact .inl h2
  · exact .inr ⟨g, cap, cur, rfl, hC g rfl, r⟩
/-- what grew a row, told as a change of the row's block -/
theorem upd_grown {w w' : World} {v : Value} (h : w.grownBy w' v.ownBlock) : Upd v.ownBlock.toList w w' :=
  ⟨h.os, h.tape, h.output, h.size, fun k hk hn => h.block k hk (fun e => hn (by simp [← e]))⟩
theorem Upd.row {S : List Nat} {a w w' : World} {v : Value} (h : Upd S a w) (k : Upd v.ownBlock.toList w w') (hb : ∀ g, v.ownBlock = some g → a.heap.size ≤ g) : Upd S a w' :=
  h.trans' k (fun i hi hl => by have := hb i (by simpa using hi); omega)
theorem Upd.rowS {S : List Nat} {a w w' : World} {v : Value} (h : Upd S a w) (k : Upd v.ownBlock.toList w w') (hb : ∀ g, v.ownBlock = some g → g < a.heap.size → g ∈ S) : Upd S a w' :=
  h.trans' k (fun i hi hl => hb i (by simpa using hi) hl)
/-- how a row grew: where it lay, or into the block w's heap got next -/
def Grew (w : World) (v v' : Value) (n m : Nat) : Prop := (∃ b cap, v = .slice b n cap ∧ v' = .slice b m cap) ∨ v'.ownBlock = some w.heap.size
theorem Grew.block {w : World} {v v' : Value} {n m : Nat} (h : Grew w v v' n m) : v'.ownBlock = v.ownBlock ∨ v'.ownBlock = some w.heap.size := by
  rcases h with ⟨b, cap, rfl, rfl⟩ | h
  · left; cases b <;> rfl
  · exact .inr h
/-- a row's beginning, where it shares a block with a row that grows: one capacity, and a beginning of its values -/
def Al (a : Value) (n : Nat) (xs : List Value) (v : Value) (m : Nat) (ys : List Value) : Prop :=
  ∀ g, a.ownBlock = some g → v.ownBlock = some g → ∃ cap, a = .slice (some ⟨g, 0, none⟩) n cap ∧ v = .slice (some ⟨g, 0, none⟩) m cap ∧ n ≤ m ∧ xs <+: ys
theorem own_sub {w : World} {B : Nat} {e : TypeId} {size g cap n m : Nat} {xs ys : List Value} (h : w.ownsRow B e size (.slice (some ⟨g, 0, none⟩) m cap) m ys) (hn : n ≤ m) (hl : xs.length = n * size) (hp : xs <+: ys) :
    w.ownsRow B e size (.slice (some ⟨g, 0, none⟩) n cap) n xs := by
  obtain ⟨h1, h2⟩ := h
  refine ⟨hl, .inr ?_⟩
  rcases h2 with ⟨h2, _⟩ | ⟨g', cap', cur, e', hb, hh, hm, hc, hs, ht⟩
  · cases h2
  · injection e' with e1 e2 e3
    injection e1 with e1
    injection e1 with e1
    subst e1 e3
    refine ⟨g, cap, cur, rfl, hb, hh, by omega, hc, hs, ?_⟩
    have e : (cur.toList.take (m * size)).take (n * size) = ys.take (n * size) := by rw [ht]
    rw [List.take_take, Nat.min_eq_left (Nat.mul_le_mul_right _ hn)] at e
    rw [e, ← hl]
    exact (List.prefix_iff_eq_take.1 hp).symm
theorem own_block_some {w : World} {B : Nat} {e : TypeId} {size : Nat} {v : Value} {n : Nat} {xs : List Value} (h : w.ownsRow B e size v n xs) {g : Nat} (hg : v.ownBlock = some g) : ∃ cap, v = .slice (some ⟨g, 0, none⟩) n cap := by
  rcases h.2 with ⟨rfl, _⟩ | ⟨g', cap, cur, rfl, _⟩
  · cases hg
  · injection hg with hg
    subst hg
    exact ⟨cap, rfl⟩
/-- a row that is grown, and one that began as it: one step of append -/
theorem own_alias {w w' : World} {B C : Nat} {e : TypeId} {size : Nat} {a v v' : Value} {n m k : Nat} {xs ys news : List Value} (ha : w.ownsRow C e size a n xs) (hal : Al a n xs v m ys)
    (hv : w'.ownsRow B e size v m ys) (hu : Upd v.ownBlock.toList w w') (hg : Grew w v v' m (m + k)) : w'.ownsRow C e size a n xs ∧ Al a n xs v' (m + k) (ys ++ news) := by
  constructor
  · by_cases he : ∃ g, a.ownBlock = some g ∧ v.ownBlock = some g
    · obtain ⟨g, h1, h2⟩ := he
      obtain ⟨cap, rfl, rfl, hnm, hp⟩ := hal g h1 h2
      have hC := (own_block ha g rfl).1
      exact own_mono (own_sub hv hnm ha.1 hp) (fun k hk => by simp only [Value.ownBlock, Option.some.injEq] at hk; omega)
    · refine own_upd ha hu ?_
      intro k hk hm
      exact he ⟨k, hk, by simpa using hm⟩
  · intro g h1 h2
    rcases hg with ⟨b, cap, rfl, rfl⟩ | hg
    · obtain ⟨cap', e1, e2, hnm, hp⟩ := hal g h1 (by cases b <;> exact h2)
      injection e2 with e2 e3 e4
      subst e2 e4
      exact ⟨cap, e1, rfl, by omega, hp.trans (List.prefix_append _ _)⟩
    · rw [hg] at h2
      injection h2 with h2
      have := (own_block ha g h1).2
      omega
theorem Al.refl {w : World} {B : Nat} {e : TypeId} {size : Nat} {v : Value} {n : Nat} {xs : List Value} (h : w.ownsRow B e size v n xs) : Al v n xs v n xs := fun g h1 _ => by
  obtain ⟨cap, rfl⟩ := own_block_some h h1
  exact ⟨cap, rfl, rfl, Nat.le_refl _, List.prefix_refl _⟩
theorem Al.apart {a v : Value} {n m : Nat} {xs ys : List Value} (h : ∀ g, a.ownBlock = some g → v.ownBlock ≠ some g) : Al a n xs v m ys := fun g h1 h2 => absurd h2 (h g h1)
/-- append: the new row, the old one under its old name, and where the new one lies -/
theorem run_append_keep {P : Program} (w : World) (base : Nat) (t ty e : TypeId) (i : TypeInfo) (z : Value) (size bytes : Nat) (ht : P.underlying t = some (.slice e)) (hi : P.info? e = some i) (hz : i.zero = some z)
    (hsize : i.size = size) (hby : i.bytes = bytes) (hzs : z.cells.size = size) (hsz : 0 < size)
    (v : Value) (n : Nat) (xs : List Value) (hown : w.ownsRow base e size v n xs)
    (a : Addr) (m c : Nat) (news : List Value) (hl : news.length = m * size) (hnews : ∀ j u, news[j]? = some u → w.cell? (a.add j) = some u) (h1 : ∀ u ∈ news, u.oneCell' = true)
    (h63 : n + m ≤ maxLen) (hbytes : (n + m) * bytes ≤ 140737488355328) (hbase : base ≤ w.heap.size) :
    ∃ v' w', (Builtin.append_ #[t, t] ty #[v, .slice (some a) m c]).run P w = .ok v' w' ∧ w'.ownsRow base e size v' (n + m) (xs ++ news) ∧ w'.ownsRow base e size v n xs ∧
      w.grownBy w' v.ownBlock ∧ Grew w v v' n (n + m) := by
  by_cases hr : ∃ g cap, v = .slice (some ⟨g, 0, none⟩) n cap ∧ n + m ≤ cap
  · obtain ⟨g, cap, rfl, hroom⟩ := hr
    obtain ⟨w', hr, h2, h3⟩ := run_append_own_spare (P := P) w base t ty e i size ht hi hsize g n cap xs hown a m c news hl hnews h1 hroom
    refine ⟨_, w', hr, h2, ?_, h3, .inl ⟨_, _, rfl, rfl⟩⟩
    obtain ⟨k1, k2⟩ := h2
    refine ⟨hown.1, .inr ?_⟩
    rcases k2 with k2 | ⟨g', cap', cur, e', hb, hh, hn, hm, hs, ht⟩
    · exact absurd k2.1 (by simp)
    · injection e' with e1 e2 e3
      injection e1 with e1
      injection e1 with e1
      subst e1 e3
      refine ⟨g, cap, cur, rfl, hb, hh, by omega, hm, hs, ?_⟩
      have : (cur.toList.take ((n + m) * size)).take (n * size) = (xs ++ news).take (n * size) := by rw [ht]
      rw [List.take_take, Nat.min_eq_left (Nat.mul_le_mul_right _ (by omega))] at this
      rw [this, List.take_append_of_le_length (by rw [hown.1]; exact Nat.le_refl _), List.take_of_length_le (by rw [hown.1]; exact Nat.le_refl _)]
  · obtain ⟨v', w', hrun, h2, h3, h4, h5⟩ := run_append_own_at (P := P) w base t ty e i z size bytes ht hi hz hsize hby hzs hsz v n xs hown a m c news hl hnews h1 h63 hbytes hbase
    rcases hown.2 with ⟨k1, k2⟩ | ⟨g, cap, cur, rfl, hb, hh, hn, hm, hs, ht'⟩
    · refine ⟨v', w', hrun, h2, ⟨hown.1, .inl ⟨k1, k2⟩⟩, h3, ?_⟩
      rcases h5 with h5 | h5
      · left
        subst k1 k2
        rcases h2.2 with ⟨k3, k4⟩ | ⟨g, cap, cur, k3, _⟩
        · exact ⟨none, 0, rfl, by rw [k3, k4]⟩
        · rw [k3] at h5; cases h5
      · exact .inr h5
    · have hcap : ¬ n + m ≤ cap := fun hc => hr ⟨g, cap, rfl, hc⟩
      have holds : ∀ j u, xs[j]? = some u → w.cell? ((⟨g, 0, none⟩ : Addr).add j) = some u := hown.cells (g := g) rfl
      have hg := run_append_grow (P := P) w t ty e i z ht hi hz ⟨g, 0, none⟩ n cap xs (by rw [hown.1, hsize]) holds a m c news (by rw [hl, hsize]) hnews (by omega) (by simp only [maxLen] at h63; omega)
        (growslice_fits (by omega) (by rw [hby]; exact hbytes))
      have hrun' := hrun
      rw [hg] at hrun'
      injection hrun' with hv hw
      refine ⟨v', w', hrun, h2, ⟨hown.1, .inr ⟨g, cap, cur, rfl, hb, ?_, hn, hm, hs, ht'⟩⟩, h3, .inr (by rw [← hv]; rfl)⟩
      rw [← hw, heap_alloc_if, if_neg]
      · exact hh
      · have := lt_of_heap hh
        simp; omega
theorem wpList_append_keep {P : Program} {w : World} {ops : Array Oper} {rest : List Oper} {o : Oper} {a : Act} {Q : Exit → Act → World → Prop} (hgd : o.guard = none) (s x : Operand) (t : TypeId)
    (ho : o.op = .call { callee := .builtin .append, args := #[s, x], argTypes := #[t, t] })
    (base : Nat) (e : TypeId) (i : TypeInfo) (z : Value) (size bytes : Nat) (ht : P.underlying t = some (.slice e)) (hi : P.info? e = some i) (hz : i.zero = some z)
    (hsize : i.size = size) (hby : i.bytes = bytes) (hzs : z.cells.size = size) (hsz : 0 < size)
    (v : Value) (n : Nat) (xs : List Value) (hs : a.eval s = v) (hown : w.ownsRow base e size v n xs)
    (ad : Addr) (m c : Nat) (news : List Value) (hx : a.eval x = .slice (some ad) m c) (hl : news.length = m * size) (hnews : ∀ j u, news[j]? = some u → w.cell? (ad.add j) = some u) (h1 : ∀ u ∈ news, u.oneCell' = true)
    (h63 : n + m ≤ maxLen) (hbytes : (n + m) * bytes ≤ 140737488355328) (hbase : base ≤ w.heap.size)
    (h : ∀ v' w', w'.ownsRow base e size v' (n + m) (xs ++ news) → w'.ownsRow base e size v n xs → w.grownBy w' v.ownBlock → Grew w v v' n (n + m) → wpList P ops Q rest (a.put o.dst v') w') :
    wpList P ops Q (o :: rest) a w := by
  refine wpList_plain hgd fun K hK => ?_
  obtain ⟨v', w', hr, h2, h3, h4, h5⟩ := run_append_keep (P := P) w base t o.type e i z size bytes ht hi hz hsize hby hzs hsz v n xs hown ad m c news hl hnews h1 h63 hbytes hbase
  unfold Oper.wp execOp
  simp only [ho, resolve, invoke, builtin, Sem.run_bind, Sem.run_pure, Result.andThen_ok, List.map_toArray, List.map_cons, List.map_nil, hs, hx, hr]
  exact hK _ _ (h v' w' h2 h3 h4 h5)
/-- make: a row of zeros -/
theorem wpList_make_own {P : Program} {w : World} {ops : Array Oper} {rest : List Oper} {o : Oper} {a : Act} {Q : Exit → Act → World → Prop} (hgd : o.guard = none) (t : TypeId) (x y : Operand) (ho : o.op = .makeSlice t x y)
    (base : Nat) (e : TypeId) (i : TypeInfo) (z : Value) (size bytes : Nat) (ht : P.underlying t = some (.slice e)) (hi : P.info? e = some i) (hz : i.zero = some z) (hsize : i.size = size) (hby : i.bytes = bytes) (hzs : z.cells.size = size)
    (n c : Nat) (n' c' : Int) (hx : a.eval x = .int .i64 n') (hy : a.eval y = .int .i64 c') (hn : n' = n) (hc : c' = c) (hnc : n ≤ c) (hbytes : bytes * c ≤ 281474976710656) (h63 : c ≤ maxLen) (hbase : base ≤ w.heap.size)
    (h : ∀ w', w'.ownsRow base e size (.slice (some ⟨w.heap.size, 0, none⟩) n c) n ((madeCells z.cells (c * size)).toList.take (n * size)) → w.grownBy w' none → wpList P ops Q rest (a.put o.dst (.slice (some ⟨w.heap.size, 0, none⟩) n c)) w') :
    wpList P ops Q (o :: rest) a w := by
  subst hn hc hsize hby
  refine wpList_plain hgd fun K hK => ?_
  have h63' : (c : Int) ≤ 9223372036854775807 := by simp [maxLen] at h63; omega
  have hb' : (i.bytes : Int) * (c : Int) ≤ 281474976710656 := by
    have h : ((i.bytes * c : Nat) : Int) ≤ 281474976710656 := by omega
    rwa [Int.natCast_mul] at h
  have hr := run_make (P := P) w t e i z ht hi hz .i64 .i64 n c (by omega) (by omega) hb' h63'
  simp only [Int.toNat_natCast] at hr
  unfold Oper.wp execOp
  simp only [ho, hx, hy, Sem.run_bind, Sem.run_pure, Result.andThen_ok, hr]
  refine hK _ _ (h _ ?_ (World.grownBy_alloc w _ none))
  have hsz : (madeCells z.cells (c * i.size)).size = c * i.size := size_madeCells _ _
  refine ⟨?_, .inr ⟨w.heap.size, c, _, rfl, hbase, hget_new rfl, hnc, h63, hsz, rfl⟩⟩
  rw [List.length_take, Array.length_toList, hsz]
  exact Nat.min_eq_left (Nat.mul_le_mul_right _ hnc)
/-- where a row that is not empty lies -/
theorem own_at {w : World} {B : Nat} {e : TypeId} {v : Value} {n : Nat} {xs : List Value} (h : w.ownsRow B e 1 v n xs) (hn : 0 < n) :
    ∃ g cap cur, v = .slice (some ⟨g, 0, none⟩) n cap ∧ B ≤ g ∧ w.heap[g]? = some (.cells cur e (0, 0)) ∧ n ≤ cap ∧ cap ≤ maxLen ∧ cur.size = cap ∧ cur.toList.take n = xs := by
  rcases h.2 with ⟨_, h0⟩ | ⟨g, cap, cur, r⟩
  · omega
  · exact ⟨g, cap, cur, by simpa using r⟩
theorem own_cell {w : World} {B : Nat} {e : TypeId} {g cap : Nat} {n : Nat} {xs : List Value} (h : w.ownsRow B e 1 (.slice (some ⟨g, 0, none⟩) n cap) n xs) (k : Nat) (hk : k < n) : w.cell? ⟨g, k, none⟩ = xs[k]? := by
  obtain ⟨g', cap', cur, e', hb, hh, hn, hm, hs, ht⟩ := own_at h (by omega)
  injection e' with e1 e2 e3
  injection e1 with e1
  injection e1 with e1
  subst e1
  rw [cell_of_row _ _ _ _ _ _ hh, ← ht, List.getElem?_take, if_pos hk, Array.getElem?_toList]
/-- a cell of a row is written -/
theorem own_set {w : World} {B : Nat} {e : TypeId} {g cap : Nat} {n : Nat} {xs : List Value} (h : w.ownsRow B e 1 (.slice (some ⟨g, 0, none⟩) n cap) n xs) (k : Nat) (hk : k < n) (u : Value) :
    (w.setCell ⟨g, k, none⟩ u).ownsRow B e 1 (.slice (some ⟨g, 0, none⟩) n cap) n (xs.set k u) := by
  have hx := h.1
  obtain ⟨g', cap', cur, e', hb, hh, hn, hm, hs, ht⟩ := own_at h (by omega)
  injection e' with e1 e2 e3
  injection e1 with e1
  injection e1 with e1
  subst e1 e3
  refine ⟨by simpa using hx, .inr ⟨g, cap, cur.setIfInBounds k u, rfl, hb, ?_, hn, hm, by simp [hs], ?_⟩⟩
  · rw [heap_setCell_same _ _ _ _ _ _ hh]
  · rw [Array.toList_setIfInBounds, Nat.mul_one, List.take_set, ht]
theorem own_frozen {w : World} {B : Nat} {e : TypeId} {g cap : Nat} {n : Nat} {xs : List Value} (h : w.ownsRow B e 1 (.slice (some ⟨g, 0, none⟩) n cap) n xs) (k : Nat) (hk : k < n) : w.frozen? ⟨g, k, none⟩ = false := by
  obtain ⟨g', cap', cur, e', hb, hh, hn, hm, hs, ht⟩ := own_at h (by omega)
  injection e' with e1 e2 e3
  injection e1 with e1
  injection e1 with e1
  subst e1
  exact frozen_of_row _ _ _ _ _ hh
/-- append of so many zeros, where there is room -/
theorem run_append_zeros {P : Program} (w : World) (base : Nat) (t tn ty e : TypeId) (i : TypeInfo) (z : Value) (kn : IntKind) (ht : P.underlying t = some (.slice e)) (htn : P.underlying tn = some (.int kn)) (hi : P.info? e = some i) (hz : i.zero = some z)
    (hsize : i.size = 1) (hby : i.bytes ≤ 8) (hzs : z.cells = #[z]) (hz1 : z.oneCell' = true) (g n cap m : Nat) (xs : List Value) (hown : w.ownsRow base e 1 (.slice (some ⟨g, 0, none⟩) n cap) n xs) (hroom : n + m ≤ cap) (hm : m ≤ 17592186044416) :
    ∃ w', (Builtin.append_ #[t, tn] ty #[.slice (some ⟨g, 0, none⟩) n cap, .int .i64 m]).run P w = .ok (.slice (some ⟨g, 0, none⟩) (n + m) cap) w' ∧
      w'.ownsRow base e 1 (.slice (some ⟨g, 0, none⟩) (n + m) cap) (n + m) (xs ++ List.replicate m z) ∧ w.grownBy w' (some g) := by
  have hzc : (Builtin.zeroCells z.cells m).toList = List.replicate m z := by
    rw [hzs]; simp only [Builtin.zeroCells]
    apply List.ext_getElem (by simp)
    intro k h1 h2
    simp [Nat.mod_one]
  have hlen := hown.1
  rcases hown.2 with k | ⟨g', cap', cur, e', hb, hh, hn, hcm, hs, htk⟩
  · exact absurd k.1 (by simp)
  injection e' with e1 e2 e3
  injection e1 with e1
  injection e1 with e1
  subst e1 e3
  have hst := run_storeCells_at P g n e (List.replicate m z) 0 cur w hh (by simp; omega) (by intro u hu; rw [List.eq_of_mem_replicate hu]; exact hz1)
  simp only [Nat.add_zero] at hst
  have hw : IntKind.i64.wrap (m : Int) = m := by rw [IntKind.wrap_i64]; omega
  have hneg : ¬ ((m : Int) < 0) := by omega
  have hbig : ¬ (281474976710656 < (m : Int) * i.bytes) := by
    have : m * i.bytes ≤ 17592186044416 * 8 := Nat.mul_le_mul hm hby
    have e : ((m * i.bytes : Nat) : Int) = (m : Int) * i.bytes := by simp
    omega
  have hr : (Builtin.append_ #[t, tn] ty #[.slice (some ⟨g, 0, none⟩) n cap, .int .i64 m]).run P w =
      .ok (.slice (some ⟨g, 0, none⟩) (n + m) cap) (w.setRow g (cur.toList.take n ++ List.replicate m z ++ cur.toList.drop (n + m)).toArray) := by
    by_cases h0 : m = 0
    · subst h0
      simp at hst
      have hw0 : IntKind.i64.wrap 0 = 0 := hw
      have hr0 : n ≤ cap := hn
      simp [Builtin.append_, run_underlying ht, run_underlying htn, sizeOf, typeInfo, hi, asInt, asIntOf, hsize, hr0, hw0, Addr.add_lit, hst]
    · simp [Builtin.append_, run_underlying ht, run_underlying htn, sizeOf, typeInfo, zeroValue, hi, hz, asInt, asIntOf, hsize, hroom, hw, hneg, hbig, h0, hzc, Addr.add_lit, hst]
  have hcur : cur.toList.length = cap := by simpa using hs
  refine ⟨_, hr, ⟨by simp at hlen; simp [hlen], .inr ⟨g, cap, _, rfl, hb, setRow_heap w g cur _ e _ hh, hroom, hcm, ?_, ?_⟩⟩, ⟨rfl, rfl, rfl, by simp, fun k _ hk => setRow_other w g k _ (fun e => hk (by simp [e]))⟩⟩
  · simp [hs]; omega
  · simp only [Nat.mul_one] at htk ⊢
    rw [htk]
    have : (xs ++ List.replicate m z).length = n + m := by simp at hlen; simp [hlen]
    rw [List.take_append_of_le_length (by omega), List.take_of_length_le (by omega)]
theorem wpList_append_zeros {P : Program} {w : World} {ops : Array Oper} {rest : List Oper} {o : Oper} {a : Act} {Q : Exit → Act → World → Prop} (hgd : o.guard = none) (s x : Operand) (t tn : TypeId)
    (ho : o.op = .call { callee := .builtin .append, args := #[s, x], argTypes := #[t, tn] })
    (base : Nat) (e : TypeId) (i : TypeInfo) (z : Value) (kn : IntKind) (ht : P.underlying t = some (.slice e)) (htn : P.underlying tn = some (.int kn)) (hi : P.info? e = some i) (hz : i.zero = some z)
    (hsize : i.size = 1) (hby : i.bytes ≤ 8) (hzs : z.cells = #[z]) (hz1 : z.oneCell' = true) (g n cap m : Nat) (m' : Int) (hm' : m' = m) (xs : List Value) (hs : a.eval s = .slice (some ⟨g, 0, none⟩) n cap) (hx : a.eval x = .int .i64 m') (hown : w.ownsRow base e 1 (.slice (some ⟨g, 0, none⟩) n cap) n xs) (hroom : n + m ≤ cap) (hm : m ≤ 17592186044416)
    (h : ∀ w', w'.ownsRow base e 1 (.slice (some ⟨g, 0, none⟩) (n + m) cap) (n + m) (xs ++ List.replicate m z) → w.grownBy w' (some g) → wpList P ops Q rest (a.put o.dst (.slice (some ⟨g, 0, none⟩) (n + m) cap)) w') : wpList P ops Q (o :: rest) a w := by
  subst hm'
  refine wpList_plain hgd fun K hK => ?_
  obtain ⟨w', hr, h2, h3⟩ := run_append_zeros (P := P) w base t tn o.type e i z kn ht htn hi hz hsize hby hzs hz1 g n cap m xs hown hroom hm
  unfold Oper.wp execOp
  simp only [ho, resolve, invoke, builtin, Sem.run_bind, Sem.run_pure, Result.andThen_ok, List.map_toArray, List.map_cons, List.map_nil, hs, hx, hr]
  exact hK _ _ (h w' h2 h3)
end Go.Proofs.Ytjeddokenpkpnaa
