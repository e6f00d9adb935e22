/-
  Rows of one's own: of bools, of hashes; one more laid behind, one read, one written over.
-/
import Derived.Test.YtdfoffheolbokaaDoorHashes
import Derived.Great.FillDense
namespace Go.Proofs.YtdfoffheolbokaaDoor
open Go Go.RowKit Go.Proofs
/-- one element more behind a row of one's own; its cells lie in a block of their own -/
theorem arm_append1 {P : Program} {ops : Array Oper} {rest : List Oper} {a : Act} {w : World} {Q : Exit → Act → World → Prop} {dst : Option Tmp} {t type e : TypeId} {pos : String} {after : Array Edge} {s x : Operand} {i : TypeInfo} {z : Value} {size bytes B n g : Nat} {v : Value} {xs cs : List Value} {T : TypeId} {fr : Nat × Nat}
    (ht : P.underlying t = some (.slice e)) (hi : P.info? e = some i) (hz : i.zero = some z) (hsize : i.size = size) (hby : i.bytes = bytes) (hzs : z.cells.size = size) (hsz : 0 < size)
    (hs : a.eval s = v) (hx : a.eval x = .slice (some ⟨g, 0, none⟩) 1 1) (hown : w.ownsRow B e size v n xs) (hg : w.heap[g]? = some (.cells cs.toArray T fr)) (hl : cs.length = size) (h1 : ∀ u ∈ cs, u.oneCell' = true)
    (h63 : n + 1 ≤ maxLen) (hbytes : (n + 1) * bytes ≤ 140737488355328) (hbase : B ≤ w.heap.size)
    (h : ∀ v' w', w'.ownsRow B e size v' (n + 1) (xs ++ cs) → Upd v.ownBlock.toList w w' → wpList P ops Q rest (a.put dst v') w') :
    wpList P ops Q (⟨dst, .call { callee := .builtin .append, args := #[s, x], argTypes := #[t, t] }, type, pos, after, none⟩ :: rest) a w :=
  wpList_append_keep rfl s x t rfl B e i z size bytes ht hi hz hsize hby hzs hsz v n xs hs hown ⟨g, 0, none⟩ 1 1 cs hx (by omega)
    (fun j u hj => by rw [Addr.add_lit, cell_of_row w g _ _ _ _ hg]; simpa using hj) h1 h63 hbytes hbase
    (fun v' w' h2 _ h4 _ => h v' w' h2 ((Upd.refl _ w).grown h4 (fun k hk _ => by simp [hk])))
/-- a row of bools of one's own -/
def OwnL (w : World) (B : Nat) (v : Value) (l : List Bool) : Prop := w.ownsRow B 4 1 v l.length (l.map .bool)
theorem OwnL.nil (w : World) (B : Nat) : OwnL w B (.slice none 0 0) [] := World.ownsRow_nil w B _ 1
theorem OwnL.upd {w w' : World} {B : Nat} {v : Value} {l : List Bool} {S : List Nat} (h : OwnL w B v l) (u : Upd S w w') (hn : ∀ k, v.ownBlock = some k → k ∉ S) : OwnL w' B v l := own_upd h u hn
theorem OwnL.upd0 {w w' : World} {B : Nat} {v : Value} {l : List Bool} (h : OwnL w B v l) (u : Upd [] w w') : OwnL w' B v l := own_upd h u (by simp)
theorem OwnL.lt {w : World} {B : Nat} {v : Value} {l : List Bool} (h : OwnL w B v l) : ∀ k, v.ownBlock = some k → B ≤ k ∧ k < w.heap.size := own_block h
theorem OwnL.at {w : World} {B : Nat} {v : Value} {l : List Bool} (h : OwnL w B v l) (hn : 0 < l.length) :
    ∃ g cap, v = .slice (some ⟨g, 0, none⟩) l.length cap ∧ B ≤ g ∧ g < w.heap.size ∧ l.length ≤ cap ∧ cap ≤ maxLen := by
  obtain ⟨g, cap, cur, e, hb, hh, h1, h2, _⟩ := own_at h hn
  exact ⟨g, cap, e, hb, lt_of_heap hh, h1, h2⟩
theorem OwnL.isSlice {w : World} {B : Nat} {v : Value} {l : List Bool} (h : OwnL w B v l) : ∃ a cap, v = .slice a l.length cap := by
  rcases h.2 with ⟨rfl, h0⟩ | ⟨g, cap, cur, rfl, _⟩
  · exact ⟨none, 0, by rw [h0]⟩
  · exact ⟨_, cap, rfl⟩
theorem OwnL.cell {w : World} {B g cap n : Nat} {l : List Bool} (h : OwnL w B (.slice (some ⟨g, 0, none⟩) n cap) l) (k : Nat) (hk : k < l.length) : w.cell? ⟨g, k, none⟩ = some (.bool l[k]) := by
  obtain ⟨g', cap', e, _⟩ := h.at (by omega)
  injection e with e1 e2 e3
  subst e2
  rw [own_cell h k hk]; simp [hk]
theorem OwnL.set {w : World} {B g cap n : Nat} {l : List Bool} (h : OwnL w B (.slice (some ⟨g, 0, none⟩) n cap) l) (k : Nat) (hk : k < l.length) (u : Bool) : OwnL (w.setCell ⟨g, k, none⟩ (.bool u)) B (.slice (some ⟨g, 0, none⟩) n cap) (l.set k u) := by
  obtain ⟨g', cap', e, _⟩ := h.at (by omega)
  injection e with e1 e2 e3
  subst e2
  have := own_set h k hk (.bool u)
  unfold OwnL
  rwa [List.length_set, List.map_set]
theorem OwnL.frozen {w : World} {B g cap n : Nat} {l : List Bool} (h : OwnL w B (.slice (some ⟨g, 0, none⟩) n cap) l) (k : Nat) (hk : k < l.length) : w.frozen? ⟨g, k, none⟩ = false := by
  obtain ⟨g', cap', e, _⟩ := h.at (by omega)
  injection e with e1 e2 e3
  subst e2
  exact own_frozen h k hk
theorem info_bool : ∃ i, Tryd.prog.info? 4 = some i ∧ i.zero = some (.bool false) ∧ i.size = 1 ∧ i.bytes = 1 := by
  have h : (Tryd.prog.info? 4).map (fun i => (i.zero, i.size, i.bytes)) = some (some (.bool false), 1, 1) := by kernel_rfl
  cases hq : Tryd.prog.info? 4 with
  | none => rw [hq] at h; cases h
  | some i =>
    rw [hq] at h
    simp only [Option.map_some, Option.some.injEq, Prod.mk.injEq] at h
    exact ⟨i, rfl, h.1, h.2.1, h.2.2⟩
/-- one bool, laid into a new block -/
theorem bsL {ops : Array Oper} {rest : List Oper} {a : Act} {w : World} {Q : Exit → Act → World → Prop} {dst : Option Tmp} {type : TypeId} {pos : String} {after : Array Edge} {x1 : Operand} {y : Bool} (h1 : a.eval x1 = .bool y)
    (h : ∀ g w', w.heap.size = g → w'.heap[g]? = some (.cells [Value.bool y].toArray 4 (0, 0)) → Upd [] w w' → wpList Tryd.prog ops Q rest (a.put dst (.slice (some ⟨g, 0, none⟩) 1 1)) w') :
    wpList Tryd.prog ops Q (⟨dst, .buildSlice 78 1 #[(0, x1)], type, pos, after, none⟩ :: rest) a w := by
  obtain ⟨i, hi, hz, hs, _⟩ := info_bool
  exact arm_bs1 Tryd.underlying78 hi hs hz rfl h1 rfl h
/-- one bool more behind a row of them -/
theorem appendL {ops : Array Oper} {rest : List Oper} {a : Act} {w : World} {Q : Exit → Act → World → Prop} {dst : Option Tmp} {type : TypeId} {pos : String} {after : Array Edge} {s x : Operand} {B g : Nat} {v : Value} {l : List Bool} {y : Bool} {T : TypeId} {fr : Nat × Nat}
    (hs : a.eval s = v) (hx : a.eval x = .slice (some ⟨g, 0, none⟩) 1 1) (hown : OwnL w B v l) (hg : w.heap[g]? = some (.cells [Value.bool y].toArray T fr)) (hl : l.length ≤ 1000000) (hbase : B ≤ w.heap.size)
    (h : ∀ v' w', OwnL w' B v' (l ++ [y]) → Upd v.ownBlock.toList w w' → wpList Tryd.prog ops Q rest (a.put dst v') w') :
    wpList Tryd.prog ops Q (⟨dst, .call { callee := .builtin .append, args := #[s, x], argTypes := #[78, 78] }, type, pos, after, none⟩ :: rest) a w := by
  obtain ⟨i, hi, hz, hsz, hby⟩ := info_bool
  refine arm_append1 Tryd.underlying78 hi hz hsz hby rfl (by omega) hs hx hown hg rfl (fun u hu => by rw [List.mem_singleton.1 hu]; rfl) (by simp [maxLen]; omega) (by omega) hbase (fun v' w' h1 h2 => h v' w' ?_ h2)
  unfold OwnL
  simpa using h1
/-- a row of hashes of one's own -/
def OwnH (w : World) (B : Nat) (v : Value) (ls : List H8) : Prop := (∀ x ∈ ls, x.length = 32) ∧ w.ownsRow B 27 32 v ls.length (ls.flatten.map U8)
theorem OwnH.nil (w : World) (B : Nat) : OwnH w B (.slice none 0 0) [] := ⟨by simp, World.ownsRow_nil w B _ 32⟩
theorem OwnH.upd0 {w w' : World} {B : Nat} {v : Value} {l : List H8} (h : OwnH w B v l) (u : Upd [] w w') : OwnH w' B v l := ⟨h.1, own_upd h.2 u (by simp)⟩
theorem OwnH.upd {w w' : World} {B : Nat} {v : Value} {l : List H8} {S : List Nat} (h : OwnH w B v l) (u : Upd S w w') (hn : ∀ k, v.ownBlock = some k → k ∉ S) : OwnH w' B v l := ⟨h.1, own_upd h.2 u hn⟩
theorem OwnH.lt {w : World} {B : Nat} {v : Value} {l : List H8} (h : OwnH w B v l) : ∀ k, v.ownBlock = some k → B ≤ k ∧ k < w.heap.size := own_block h.2
theorem OwnH.mono {w : World} {B C : Nat} {v : Value} {l : List H8} (h : OwnH w B v l) (hC : ∀ k, v.ownBlock = some k → C ≤ k) : OwnH w C v l := ⟨h.1, own_mono h.2 hC⟩
theorem OwnH.rd {w : World} {B : Nat} {v : Value} {l : List H8} (h : OwnH w B v l) : RdH w v l := by
  obtain ⟨hl, hx, h2⟩ := h
  rcases h2 with ⟨rfl, h0⟩ | ⟨g, cap, cur, rfl, hb, hh, hn, hm, hs, ht⟩
  · rw [List.eq_nil_of_length_eq_zero h0]; exact RdH.nil w
  · refine ⟨hl, _, cap, rfl, hn, hm, fun _ => ⟨g, 0, rfl, ?_⟩⟩
    have hfl := flat_length l hl
    refine Bytes.of_row hh l.flatten 0 (fun i hi => ?_)
    have : (cur.toList.take (l.length * 32))[i]? = (l.flatten.map U8)[i]? := by rw [ht]
    rw [List.getElem?_take, if_pos (by omega)] at this
    rw [Nat.zero_add, ← Array.getElem?_toList, this, List.getElem?_map, List.getElem?_eq_getElem hi]; rfl
theorem info_hash : ∃ i, Tryd.prog.info? 27 = some i ∧ i.zero = some (.agg (zrow8 32)) ∧ i.size = 32 ∧ i.bytes = 32 := by
  have h : (Tryd.prog.info? 27).map (fun i => (i.zero, i.size, i.bytes)) = some (some (.agg (zrow8 32)), 32, 32) := by kernel_rfl
  cases hq : Tryd.prog.info? 27 with
  | none => rw [hq] at h; cases h
  | some i =>
    rw [hq] at h
    simp only [Option.map_some, Option.some.injEq, Prod.mk.injEq] at h
    exact ⟨i, rfl, h.1, h.2.1, h.2.2⟩
/-- one hash, laid into a new block -/
theorem bsH {ops : Array Oper} {rest : List Oper} {a : Act} {w : World} {Q : Exit → Act → World → Prop} {dst : Option Tmp} {type : TypeId} {pos : String} {after : Array Edge} {x1 : Operand} {l : H8} {cs : Array Value} (hcs : (l.map U8).toArray = cs) (hll : l.length = 32) (h1 : a.eval x1 = .agg cs)
    (h : ∀ g w', w.heap.size = g → w'.heap[g]? = some (.cells (l.map U8).toArray 27 (0, 0)) → Upd [] w w' → wpList Tryd.prog ops Q rest (a.put dst (.slice (some ⟨g, 0, none⟩) 1 1)) w') :
    wpList Tryd.prog ops Q (⟨dst, .buildSlice 25 1 #[(0, x1)], type, pos, after, none⟩ :: rest) a w := by
  subst hcs
  obtain ⟨i, hi, hz, hs, hby⟩ := info_hash
  refine wpList_buildSlice rfl 25 27 1 _ rfl (l.map U8).toArray i (.agg (zrow8 32)) Tryd.underlying25 hi hz (by rw [hs]; decide) (by rw [hs]; decide) ?_ (h _ _ rfl (hget_new rfl) ((Upd.refl _ w).alloc _))
  have := Great.fill_whole (s := 32) (by omega) [.agg (l.map U8).toArray] ((Array.range (1 * i.size)).map ((Value.agg (zrow8 32)).cells[· % (Value.agg (zrow8 32)).cells.size]!)) (fun v hv => by rw [List.mem_singleton.1 hv]; simp [Value.cells, hll]) (by rw [hs]; simp)
  simp only [List.map_toArray, List.map_cons, List.map_nil, h1, hs]
  rw [hs] at this
  simpa [Value.cells] using this
/-- one hash more behind a row of them -/
theorem appendH {ops : Array Oper} {rest : List Oper} {a : Act} {w : World} {Q : Exit → Act → World → Prop} {dst : Option Tmp} {type : TypeId} {pos : String} {after : Array Edge} {s x : Operand} {B g : Nat} {v : Value} {l : List H8} {y : H8} {T : TypeId} {fr : Nat × Nat}
    (hs : a.eval s = v) (hx : a.eval x = .slice (some ⟨g, 0, none⟩) 1 1) (hown : OwnH w B v l) (hg : w.heap[g]? = some (.cells (y.map U8).toArray T fr)) (hy : y.length = 32) (hl : l.length ≤ 1000000) (hbase : B ≤ w.heap.size)
    (h : ∀ v' w', OwnH w' B v' (l ++ [y]) → Upd v.ownBlock.toList w w' → wpList Tryd.prog ops Q rest (a.put dst v') w') :
    wpList Tryd.prog ops Q (⟨dst, .call { callee := .builtin .append, args := #[s, x], argTypes := #[25, 25] }, type, pos, after, none⟩ :: rest) a w := by
  obtain ⟨i, hi, hz, hsz, hby⟩ := info_hash
  refine arm_append1 Tryd.underlying25 hi hz hsz hby (by simp [Value.cells, zrow8_size]) (by omega) hs hx hown.2 hg (by simp [hy]) (fun u hu => by obtain ⟨b, _, rfl⟩ := List.mem_map.1 hu; rfl) (by simp [maxLen]; omega) (by omega) hbase (fun v' w' h1 h2 => h v' w' ⟨fun z hz => ?_, ?_⟩ h2)
  · rcases List.mem_append.1 hz with hz | hz
    · exact hown.1 z hz
    · rw [List.mem_singleton.1 hz]; exact hy
  · rw [List.length_append, List.flatten_append, List.map_append]
    simpa using h1
theorem flat_set (ls : List H8) (k : Nat) (hk : k < ls.length) (y : H8) (hl : ∀ x ∈ ls, x.length = 32) : (ls.set k y).flatten = ls.flatten.take (32 * k) ++ y ++ ls.flatten.drop (32 * k + 32) := by
  rw [List.set_eq_take_append_cons_drop, if_pos hk, List.flatten_append, List.flatten_cons, flat_take ls k hl, flat_drop ls (k + 1) hl, List.append_assoc]
  rfl
/-- a hash is written over -/
theorem OwnH.set {w : World} {B g cap n : Nat} {ls : List H8} (h : OwnH w B (.slice (some ⟨g, 0, none⟩) n cap) ls) (k : Nat) (hk : k < ls.length) (y : H8) (hy : y.length = 32) :
    w.there g (k * 32) 32 ∧ OwnH (w.setCells g (k * 32) (y.map U8)) B (.slice (some ⟨g, 0, none⟩) n cap) (ls.set k y) := by
  rw [Nat.mul_comm k 32]
  obtain ⟨hl, hx, h2⟩ := h
  rcases h2 with ⟨e, h0⟩ | ⟨g', cap', cur, e, hb, hh, hn, hm, hs, ht⟩
  · omega
  · injection e with e1 e2 e3
    injection e1 with e1
    injection e1 with e1
    subst e1 e2 e3
    have hfl := flat_length ls hl
    have hcl : cur.toList.length = cap * 32 := by simpa using hs
    have hh' : w.heap[g]? = some (.cells cur.toList.toArray 27 (0, 0)) := by simpa using hh
    have hset : ∀ z ∈ ls.set k y, z.length = 32 := fun z hz => by
      rcases List.mem_or_eq_of_mem_set hz with hz | rfl
      · exact hl z hz
      · exact hy
    refine ⟨there_of_row hh' _ _ (by rw [hcl]; omega), hset, by rw [List.length_map, flat_length _ hset, Nat.mul_comm], .inr ⟨g, cap, (splice cur.toList (32 * k) (y.map U8)).toArray, by simp, hb, setCells_heap g _ _ w cur.toList (by simp [hy]; omega) hh', by simpa using hn, hm, ?_, ?_⟩⟩
    · simp only [splice, List.size_toArray, List.length_append, List.length_take, List.length_drop, List.length_map, hcl]; omega
    · have e1 : (ls.flatten.map U8).take (32 * k) = cur.toList.take (32 * k) := by rw [← ht, List.take_take, Nat.min_eq_left (by omega)]
      have e2 : (ls.flatten.map U8).drop (32 * k + 32) = (cur.toList.drop (32 * k + 32)).take (ls.length * 32 - (32 * k + 32)) := by rw [← ht, List.drop_take]
      rw [flat_set ls k hk y hl, List.map_append, List.map_append, List.map_take, List.map_drop, e1, e2]
      simp only [splice, List.length_set, List.length_map, hy]
      rw [List.take_append, List.take_append, List.take_of_length_le (l := cur.toList.take (32 * k)) (by simp; omega), List.take_of_length_le (l := y.map U8) (by simp [hy]; omega)]
      rw [show (cur.toList.take (32 * k)).length = 32 * k by simp; omega, List.length_map, hy, show ls.length * 32 - 32 * k - 32 = ls.length * 32 - (32 * k + 32) by omega, List.append_assoc]
/-- hashes of zeros, made -/
theorem makeH {ops : Array Oper} {rest : List Oper} {a : Act} {w : World} {Q : Exit → Act → World → Prop} {dst : Option Tmp} {type : TypeId} {pos : String} {after : Array Edge} {x y : Operand} {n : Nat}
    (hx : a.eval x = .int .i64 n) (hy : a.eval y = .int .i64 n) (hn : n ≤ 1000000)
    (h : ∀ g w', w.heap.size = g → OwnH w' g (.slice (some ⟨g, 0, none⟩) n n) (List.replicate n (List.replicate 32 0)) → Upd [] w w' → wpList Tryd.prog ops Q rest (a.put dst (.slice (some ⟨g, 0, none⟩) n n)) w') :
    wpList Tryd.prog ops Q (⟨dst, .makeSlice 25 x y, type, pos, after, none⟩ :: rest) a w := by
  obtain ⟨i, hi, hz, hsz, hby⟩ := info_hash
  refine wpList_make_own rfl 25 x y rfl w.heap.size 27 i _ 32 32 Tryd.underlying25 hi hz hsz hby (by simp [Value.cells, zrow8_size]) n n n n hx hy rfl rfl (Nat.le_refl _) (by omega) (by simp only [maxLen]; omega) (Nat.le_refl _) ?_
  intro w' h1 h2
  refine h _ w' rfl ⟨fun z hz => ?_, ?_⟩ ⟨h2.os, h2.tape, h2.output, h2.size, fun k hk _ => h2.block k hk (by simp)⟩
  · rw [List.eq_of_mem_replicate hz]; simp
  · have e : (madeCells (Value.agg (zrow8 32)).cells (n * 32)).toList.take (n * 32) = ((List.replicate n (List.replicate 32 (0 : BitVec 8))).flatten).map U8 := by
      rw [List.take_of_length_le (by simp [madeCells]), List.flatten_replicate_replicate]
      simp only [madeCells, Value.cells, zrow8_size]
      apply List.ext_getElem
      · simp
      · intro k h1 h2
        have hk : k % 32 < (zrow8 32).size := by rw [zrow8_size]; exact Nat.mod_lt _ (by omega)
        simp only [Array.toList_map, Array.toList_range, List.getElem_map, List.getElem_range, List.getElem_replicate]
        rw [getElem!_pos (zrow8 32) (k % 32) hk]
        have hz : zrow8 32 = ((List.replicate 32 (0 : BitVec 8)).map U8).toArray := by kernel_rfl
        simp only [hz, List.getElem_toArray, List.getElem_map, List.getElem_replicate]
    rw [e] at h1
    rwa [List.length_replicate]
/-- a range is written -/
theorem arm_store_mid {P : Program} {ops : Array Oper} {rest : List Oper} {a : Act} {w : World} {Q : Exit → Act → World → Prop} {dst : Option Tmp} {ty type : TypeId} {pos : String} {after : Array Edge} {x y : Operand} {g k : Nat} {cells : Array Value}
    (hx : a.eval x = .pointer (some ⟨g, k, none⟩)) (hy : a.eval y = .agg cells) (ht : w.there g k cells.size) (hi : (P.info? ty).map (·.size) = some cells.size) (h1 : cells.all (·.oneCell') = true)
    (h : ∀ w', w' = w.setCells g k cells.toList → wpList P ops Q rest (a.put dst undef) w') : wpList P ops Q (⟨dst, .store ty x y, type, pos, after, none⟩ :: rest) a w := by
  refine wpList_plain rfl fun K hK => ?_
  unfold Oper.wp execOp
  simp only [hx, hy, Instr.storeAt, Instr.sureAddr, Sem.run_bind, Sem.run_pure, Result.andThen_ok, run_storeVar_mid w g k ty cells ht hi h1]
  exact hK _ _ (h _ rfl)
/-- the address of an element -/
theorem yields_index {P : Program} {S : World → Prop} {a : Act} {dst : Option Tmp} {ty type e : TypeId} {pos : String} {after : Array Edge} {gd : Option (Nat × Bool)} {x y : Operand} {g o n c i size k : Nat} {u : Int}
    (ht : P.underlying ty = some (.slice e)) (he : P.elem ty = e) (hs : (P.info? e).map (·.size) = some size) (hx : a.eval x = .slice (some ⟨g, o, none⟩) n c) (hy : a.eval y = .int .i64 u) (hu : u = i) (hi : i < n) (hk : o + i * size = k) :
    ∀ w, S w → (execOp a.eval ⟨dst, .indexAddr ty x y, type, pos, after, gd⟩).run P w = .ok (.value (.pointer (some ⟨g, k, none⟩))) w := by
  intro w _
  subst hk hu he
  have hsz : (sizeOf (P.elem ty)).run P w = .ok size w := by
    cases hq : P.info? (P.elem ty) with
    | none => simp [hq] at hs
    | some j => have : j.size = size := by simpa [hq] using hs
                simp [sizeOf, typeInfo, hq, this]
  unfold execOp
  simp only [hx, hy, Sem.run_bind, Sem.run_pure, run_indexAt_slice (P := P) w ty _ n c .i64 i ht]
  have h1 : (0 : Int) ≤ i ∧ (i : Int) < n := by omega
  simp [h1, hsz, Result.andThen, Addr.add_lit]
end Go.Proofs.YtdfoffheolbokaaDoor
