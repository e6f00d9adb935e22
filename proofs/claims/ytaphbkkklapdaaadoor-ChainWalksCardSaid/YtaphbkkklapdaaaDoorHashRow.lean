/-
  Rows of hashes: read, made, written over.
-/
import Derived.Test.YtaphbkkklapdaaaDoorGen
import Derived.Test.YtaphbkkklapdaaaDoorValue
namespace Go.Proofs.YtaphbkkklapdaaaDoor
open Go Go.RowKit Go.Proofs
abbrev H8 := List (BitVec 8)
theorem flat_length : ∀ (ls : List H8), (∀ x ∈ ls, x.length = 32) → ls.flatten.length = 32 * ls.length
  | [], _ => rfl
  | x :: r, h => by
    have h1 := h x (by simp)
    have h2 := flat_length r (fun y hy => h y (by simp [hy]))
    simp only [List.flatten_cons, List.length_append, List.length_cons]; omega
theorem flat_drop : ∀ (ls : List H8) (i : Nat), (∀ x ∈ ls, x.length = 32) → (ls.drop i).flatten = ls.flatten.drop (32 * i)
  | [], i, _ => by simp
  | x :: r, 0, _ => by simp
  | x :: r, i + 1, h => by
    have h1 := h x (by simp)
    rw [List.drop_succ_cons, flat_drop r i (fun y hy => h y (by simp [hy])), List.flatten_cons, show 32 * (i + 1) = x.length + 32 * i by omega, List.drop_append, show x.drop (x.length + 32 * i) = [] from List.drop_eq_nil_of_le (by omega), List.nil_append, Nat.add_sub_cancel_left]
theorem flat_take (ls : List H8) (i : Nat) (h : ∀ x ∈ ls, x.length = 32) : (ls.take i).flatten = ls.flatten.take (32 * i) := by
  have e := flat_drop ls i h
  have e2 : ls.flatten = (ls.take i).flatten ++ (ls.drop i).flatten := by rw [← List.flatten_append, List.take_append_drop]
  by_cases hi : i ≤ ls.length
  · have hl := flat_length (ls.take i) (fun x hx => h x (List.mem_of_mem_take hx))
    rw [e2, List.take_left' (by rw [hl]; simp; omega)]
  · rw [List.take_of_length_le (by omega), List.take_of_length_le (by rw [flat_length ls h]; omega)]
theorem flat_get (ls : List H8) (i : Nat) (hi : i < ls.length) (h : ∀ x ∈ ls, x.length = 32) : (ls.flatten.drop (32 * i)).take 32 = ls[i] := by
  rw [← flat_drop ls i h, List.drop_eq_getElem_cons hi, List.flatten_cons, List.take_left' (h _ (List.getElem_mem _))]
def RdH (w : World) (v : Value) (ls : List H8) : Prop := (∀ x ∈ ls, x.length = 32) ∧ ∃ A c, v = .slice A ls.length c ∧ ls.length ≤ c ∧ c ≤ maxLen ∧ (0 < ls.length → ∃ g p, A = some ⟨g, p, none⟩ ∧ Bytes w g p ls.flatten)
theorem RdH.nil (w : World) : RdH w (.slice none 0 0) [] := ⟨by simp, none, 0, rfl, Nat.le_refl _, by simp [maxLen], fun h => by simp at h⟩
theorem RdH.upd {w w' : World} {v : Value} {ls : List H8} {S : List Nat} (h : RdH w v ls) (u : Upd S w w') (hn : 0 < ls.length → ∀ k, v.ownBlock = some k → k ∉ S) : RdH w' v ls := by
  obtain ⟨hl, A, c, rfl, h1, h2, h3⟩ := h
  refine ⟨hl, A, c, rfl, h1, h2, fun hp => ?_⟩
  obtain ⟨g, p, rfl, hb⟩ := h3 hp
  exact ⟨g, p, rfl, hb.upd u (hn hp g rfl)⟩
theorem RdH.upd0 {w w' : World} {v : Value} {ls : List H8} (h : RdH w v ls) (u : Upd [] w w') : RdH w' v ls := h.upd u (by simp)
theorem RdH.at {w : World} {v : Value} {ls : List H8} (h : RdH w v ls) (hn : 0 < ls.length) : ∃ g p c, v = .slice (some ⟨g, p, none⟩) ls.length c ∧ ls.length ≤ c ∧ c ≤ maxLen ∧ Bytes w g p ls.flatten := by
  obtain ⟨_, A, c, rfl, h1, h2, h3⟩ := h
  obtain ⟨g, p, rfl, hb⟩ := h3 hn
  exact ⟨g, p, c, rfl, h1, h2, hb⟩
theorem Bytes.range {w : World} {g o : Nat} {l : List (BitVec 8)} (h : Bytes w g o l) : w.rangeAt g o (l.map U8) := fun j v hj => by
  obtain ⟨hlt, e⟩ := List.getElem?_eq_some_iff.1 hj
  have hl : j < l.length := by simpa using hlt
  rw [h j hl, ← e]; simp
theorem RdH.elem {w : World} {g p n c : Nat} {ls : List H8} (h : RdH w (.slice (some ⟨g, p, none⟩) n c) ls) (i : Nat) (hi : i < ls.length) : w.rangeAt g (p + i * 32) (ls[i].map U8) := by
  obtain ⟨g', p', c', e, _, _, hb⟩ := h.at (by omega)
  injection e with e1 e2 e3
  injection e1 with e1
  injection e1 with e1 e4
  subst e1 e4
  have := ((hb.drop (32 * i)).take 32)
  rw [flat_get ls i hi h.1, Nat.mul_comm] at this
  exact this.range
def OwnH (w : World) (B : Nat) (v : Value) (ls : List H8) : Prop := (∀ x ∈ ls, x.length = 32) ∧ w.ownsRow B 23 32 v ls.length (ls.flatten.map U8)
theorem OwnH.upd0 {w w' : World} {B : Nat} {v : Value} {l : List H8} (h : OwnH w B v l) (u : Upd [] w w') : OwnH w' B v l := ⟨h.1, own_upd h.2 u (by simp)⟩
theorem OwnH.upd {w w' : World} {B : Nat} {v : Value} {l : List H8} {S : List Nat} (h : OwnH w B v l) (u : Upd S w w') (hn : ∀ k, v.ownBlock = some k → k ∉ S) : OwnH w' B v l := ⟨h.1, own_upd h.2 u hn⟩
theorem OwnH.lt {w : World} {B : Nat} {v : Value} {l : List H8} (h : OwnH w B v l) : ∀ k, v.ownBlock = some k → B ≤ k ∧ k < w.heap.size := own_block h.2
theorem OwnH.rd {w : World} {B : Nat} {v : Value} {l : List H8} (h : OwnH w B v l) : RdH w v l := by
  obtain ⟨hl, hx, h2⟩ := h
  rcases h2 with ⟨rfl, h0⟩ | ⟨g, cap, cur, rfl, hb, hh, hn, hm, hs, ht⟩
  · rw [List.eq_nil_of_length_eq_zero h0]; exact RdH.nil w
  · refine ⟨hl, _, cap, rfl, hn, hm, fun _ => ⟨g, 0, rfl, ?_⟩⟩
    have hfl := flat_length l hl
    refine Bytes.of_row hh l.flatten 0 (fun i hi => ?_)
    have : (cur.toList.take (l.length * 32))[i]? = (l.flatten.map U8)[i]? := by rw [ht]
    rw [List.getElem?_take, if_pos (by omega)] at this
    rw [Nat.zero_add, ← Array.getElem?_toList, this, List.getElem?_map, List.getElem?_eq_getElem hi]; rfl
theorem info_hash : ∃ i, Tryd.prog.info? 23 = some i ∧ i.zero = some (.agg (zrow8 32)) ∧ i.size = 32 ∧ i.bytes = 32 := by
  have h : (Tryd.prog.info? 23).map (fun i => (i.zero, i.size, i.bytes)) = some (some (.agg (zrow8 32)), 32, 32) := by kernel_rfl
  cases hq : Tryd.prog.info? 23 with
  | none => rw [hq] at h; cases h
  | some i =>
    rw [hq] at h
    simp only [Option.map_some, Option.some.injEq, Prod.mk.injEq] at h
    exact ⟨i, rfl, h.1, h.2.1, h.2.2⟩
theorem flat_set (ls : List H8) (k : Nat) (hk : k < ls.length) (y : H8) (hl : ∀ x ∈ ls, x.length = 32) : (ls.set k y).flatten = ls.flatten.take (32 * k) ++ y ++ ls.flatten.drop (32 * k + 32) := by
  rw [List.set_eq_take_append_cons_drop, if_pos hk, List.flatten_append, List.flatten_cons, flat_take ls k hl, flat_drop ls (k + 1) hl, List.append_assoc]
  rfl
theorem OwnH.set {w : World} {B g cap n : Nat} {ls : List H8} (h : OwnH w B (.slice (some ⟨g, 0, none⟩) n cap) ls) (k : Nat) (hk : k < ls.length) (y : H8) (hy : y.length = 32) :
    w.there g (k * 32) 32 ∧ OwnH (w.setCells g (k * 32) (y.map U8)) B (.slice (some ⟨g, 0, none⟩) n cap) (ls.set k y) := by
  rw [Nat.mul_comm k 32]
  obtain ⟨hl, hx, h2⟩ := h
  rcases h2 with ⟨e, h0⟩ | ⟨g', cap', cur, e, hb, hh, hn, hm, hs, ht⟩
  · omega
  · injection e with e1 e2 e3
    injection e1 with e1
    injection e1 with e1
    subst e1 e2 e3
    have hfl := flat_length ls hl
    have hcl : cur.toList.length = cap * 32 := by simpa using hs
    have hh' : w.heap[g]? = some (.cells cur.toList.toArray 23 (0, 0)) := by simpa using hh
    have hset : ∀ z ∈ ls.set k y, z.length = 32 := fun z hz => by
      rcases List.mem_or_eq_of_mem_set hz with hz | rfl
      · exact hl z hz
      · exact hy
    refine ⟨there_of_row hh' _ _ (by rw [hcl]; omega), hset, by rw [List.length_map, flat_length _ hset, Nat.mul_comm], .inr ⟨g, cap, (splice cur.toList (32 * k) (y.map U8)).toArray, by simp, hb, setCells_heap g _ _ w cur.toList (by simp [hy]; omega) hh', by simpa using hn, hm, ?_, ?_⟩⟩
    · simp only [splice, List.size_toArray, List.length_append, List.length_take, List.length_drop, List.length_map, hcl]; omega
    · have e1 : (ls.flatten.map U8).take (32 * k) = cur.toList.take (32 * k) := by rw [← ht, List.take_take, Nat.min_eq_left (by omega)]
      have e2 : (ls.flatten.map U8).drop (32 * k + 32) = (cur.toList.drop (32 * k + 32)).take (ls.length * 32 - (32 * k + 32)) := by rw [← ht, List.drop_take]
      rw [flat_set ls k hk y hl, List.map_append, List.map_append, List.map_take, List.map_drop, e1, e2]
      simp only [splice, List.length_set, List.length_map, hy]
      rw [List.take_append, List.take_append, List.take_of_length_le (l := cur.toList.take (32 * k)) (by simp; omega), List.take_of_length_le (l := y.map U8) (by simp [hy]; omega)]
      rw [show (cur.toList.take (32 * k)).length = 32 * k by simp; omega, List.length_map, hy, show ls.length * 32 - 32 * k - 32 = ls.length * 32 - (32 * k + 32) by omega, List.append_assoc]
theorem makeH {ops : Array Oper} {rest : List Oper} {a : Act} {w : World} {Q : Exit → Act → World → Prop} {dst : Option Tmp} {type : TypeId} {pos : String} {after : Array Edge} {x y : Operand} {n : Nat}
    (hx : a.eval x = .int .i64 n) (hy : a.eval y = .int .i64 n) (hn : n ≤ 1000000)
    (h : ∀ g w', w.heap.size = g → OwnH w' g (.slice (some ⟨g, 0, none⟩) n n) (List.replicate n (List.replicate 32 0)) → Upd [] w w' → wpList Tryd.prog ops Q rest (a.put dst (.slice (some ⟨g, 0, none⟩) n n)) w') :
    wpList Tryd.prog ops Q (⟨dst, .makeSlice 27 x y, type, pos, after, none⟩ :: rest) a w := by
  obtain ⟨i, hi, hz, hsz, hby⟩ := info_hash
  refine wpList_make_own rfl 27 x y rfl w.heap.size 23 i _ 32 32 Tryd.underlying27 hi hz hsz hby (by simp [Value.cells, zrow8_size]) n n n n hx hy rfl rfl (Nat.le_refl _) (by omega) (by simp only [maxLen]; omega) (Nat.le_refl _) ?_
  intro w' h1 h2
  refine h _ w' rfl ⟨fun z hz => ?_, ?_⟩ ⟨h2.os, h2.tape, h2.output, h2.size, fun k hk _ => h2.block k hk (by simp)⟩
  · rw [List.eq_of_mem_replicate hz]; simp
  · have e : (madeCells (Value.agg (zrow8 32)).cells (n * 32)).toList.take (n * 32) = ((List.replicate n (List.replicate 32 (0 : BitVec 8))).flatten).map U8 := by
      rw [List.take_of_length_le (by simp [madeCells]), List.flatten_replicate_replicate]
      simp only [madeCells, Value.cells, zrow8_size]
      apply List.ext_getElem
      · simp
      · intro k h1 h2
        have hk : k % 32 < (zrow8 32).size := by rw [zrow8_size]; exact Nat.mod_lt _ (by omega)
        simp only [Array.toList_map, Array.toList_range, List.getElem_map, List.getElem_range, List.getElem_replicate]
        rw [getElem!_pos (zrow8 32) (k % 32) hk]
        have hz : zrow8 32 = ((List.replicate 32 (0 : BitVec 8)).map U8).toArray := by kernel_rfl
        simp only [hz, List.getElem_toArray, List.getElem_map, List.getElem_replicate]
    rw [e] at h1
    rwa [List.length_replicate]
end Go.Proofs.YtaphbkkklapdaaaDoor
