/-
  Rows of peaks: whole trees, the greatest first; one more behind them, the last one left out. Where a row lies behind an append.
-/
import Derived.Test.YtdfoffheolbokaaDoorPairRow
import Derived.Test.YtdfoffheolbokaaDoorMerkle
namespace Go.Proofs.YtdfoffheolbokaaDoor
open Go Go.RowKit Go.Proofs
/-- one element more behind a row of one's own, and where the new row lies -/
theorem arm_append1w {P : Program} {ops : Array Oper} {rest : List Oper} {a : Act} {w : World} {Q : Exit → Act → World → Prop} {dst : Option Tmp} {t type e : TypeId} {pos : String} {after : Array Edge} {s x : Operand} {i : TypeInfo} {z : Value} {size bytes B n g : Nat} {v : Value} {xs cs : List Value} {T : TypeId} {fr : Nat × Nat}
    (ht : P.underlying t = some (.slice e)) (hi : P.info? e = some i) (hz : i.zero = some z) (hsize : i.size = size) (hby : i.bytes = bytes) (hzs : z.cells.size = size) (hsz : 0 < size)
    (hs : a.eval s = v) (hx : a.eval x = .slice (some ⟨g, 0, none⟩) 1 1) (hown : w.ownsRow B e size v n xs) (hg : w.heap[g]? = some (.cells cs.toArray T fr)) (hl : cs.length = size) (h1 : ∀ u ∈ cs, u.oneCell' = true)
    (h63 : n + 1 ≤ maxLen) (hbytes : (n + 1) * bytes ≤ 140737488355328) (hbase : B ≤ w.heap.size)
    (h : ∀ v' w', w'.ownsRow B e size v' (n + 1) (xs ++ cs) → Upd v.ownBlock.toList w w' → (v'.ownBlock = v.ownBlock ∨ v'.ownBlock = some w.heap.size) → wpList P ops Q rest (a.put dst v') w') :
    wpList P ops Q (⟨dst, .call { callee := .builtin .append, args := #[s, x], argTypes := #[t, t] }, type, pos, after, none⟩ :: rest) a w :=
  wpList_append_keep rfl s x t rfl B e i z size bytes ht hi hz hsize hby hzs hsz v n xs hs hown ⟨g, 0, none⟩ 1 1 cs hx (by omega)
    (fun j u hj => by rw [Addr.add_lit, cell_of_row w g _ _ _ _ hg]; simpa using hj) h1 h63 hbytes hbase
    (fun v' w' h2 _ h4 h5 => h v' w' h2 ((Upd.refl _ w).grown h4 (fun k hk _ => by simp [hk])) h5.block)
/-- one hash more behind a row of them, and where the new row lies -/
theorem appendHw {ops : Array Oper} {rest : List Oper} {a : Act} {w : World} {Q : Exit → Act → World → Prop} {dst : Option Tmp} {type : TypeId} {pos : String} {after : Array Edge} {s x : Operand} {B g : Nat} {v : Value} {l : List H8} {y : H8} {T : TypeId} {fr : Nat × Nat}
    (hs : a.eval s = v) (hx : a.eval x = .slice (some ⟨g, 0, none⟩) 1 1) (hown : OwnH w B v l) (hg : w.heap[g]? = some (.cells (y.map U8).toArray T fr)) (hy : y.length = 32) (hl : l.length ≤ 1000000) (hbase : B ≤ w.heap.size)
    (h : ∀ v' w', OwnH w' B v' (l ++ [y]) → Upd v.ownBlock.toList w w' → (v'.ownBlock = v.ownBlock ∨ v'.ownBlock = some w.heap.size) → wpList Tryd.prog ops Q rest (a.put dst v') w') :
    wpList Tryd.prog ops Q (⟨dst, .call { callee := .builtin .append, args := #[s, x], argTypes := #[25, 25] }, type, pos, after, none⟩ :: rest) a w := by
  obtain ⟨i, hi, hz, hsz, hby⟩ := info_hash
  refine arm_append1w Tryd.underlying25 hi hz hsz hby (by simp [Value.cells, zrow8_size]) (by omega) hs hx hown.2 hg (by simp [hy]) (fun u hu => by obtain ⟨b, _, rfl⟩ := List.mem_map.1 hu; rfl) (by simp [maxLen]; omega) (by omega) hbase (fun v' w' h1 h2 h3 => h v' w' ⟨fun z hz => ?_, ?_⟩ h2 h3)
  · rcases List.mem_append.1 hz with hz | hz
    · exact hown.1 z hz
    · rw [List.mem_singleton.1 hz]; exact hy
  · rw [List.length_append, List.flatten_append, List.map_append]
    simpa using h1
/-- a peak's cells -/
def peakC (s : List H8) : List Value := .int .i64 s.length :: (rootOf s).map U8
def kCells (S : List (List H8)) : List Value := S.flatMap peakC
theorem peakC_length {s : List H8} (h : (rootOf s).length = 32) : (peakC s).length = 33 := by simp [peakC, h]
theorem kCells_length : ∀ (S : List (List H8)), (∀ s ∈ S, (rootOf s).length = 32) → (kCells S).length = S.length * 33
  | [], _ => rfl
  | s :: S, h => by
    have h1 := kCells_length S (fun t ht => h t (by simp [ht]))
    have h2 := peakC_length (h s (by simp))
    simp only [kCells, List.flatMap_cons, List.length_append, List.length_cons] at h1 ⊢
    omega
theorem kCells_get : ∀ (S : List (List H8)) (i j : Nat) (_ : ∀ s ∈ S, (rootOf s).length = 32) (hi : i < S.length), j < 33 → (kCells S)[i * 33 + j]? = (peakC S[i])[j]?
  | s :: S, 0, j, h, _, hj => by
    have h2 := peakC_length (h s (by simp))
    simp only [kCells, List.flatMap_cons, List.getElem_cons_zero]
    rw [List.getElem?_append_left (by omega)]
    simp
  | s :: S, i + 1, j, h, hi, hj => by
    have h1 := kCells_get S i j (fun t ht => h t (by simp [ht])) (by simpa using hi) hj
    have h2 := peakC_length (h s (by simp))
    simp only [kCells, List.flatMap_cons, List.getElem_cons_succ] at h1 ⊢
    rw [List.getElem?_append_right (by omega), ← h1]
    congr 1
    omega
theorem kCells_take (S : List (List H8)) (k : Nat) (h : ∀ s ∈ S, (rootOf s).length = 32) (hk : k ≤ S.length) : (kCells S).take (k * 33) = kCells (S.take k) := by
  have e : kCells S = kCells (S.take k) ++ kCells (S.drop k) := by unfold kCells; rw [← List.flatMap_append, List.take_append_drop]
  have hl := kCells_length (S.take k) (fun s hs => h s (List.mem_of_mem_take hs))
  rw [e, List.take_left' (by rw [hl]; simp; omega)]
/-- a row of peaks of one's own -/
def OwnK (w : World) (B : Nat) (v : Value) (S : List (List H8)) : Prop := (∀ s ∈ S, (rootOf s).length = 32) ∧ w.ownsRow B 72 33 v S.length (kCells S)
theorem OwnK.nil (w : World) (B : Nat) : OwnK w B (.slice none 0 0) [] := ⟨by simp, World.ownsRow_nil w B _ 33⟩
theorem OwnK.upd {w w' : World} {B : Nat} {v : Value} {l : List (List H8)} {S : List Nat} (h : OwnK w B v l) (u : Upd S w w') (hn : ∀ k, v.ownBlock = some k → k ∉ S) : OwnK w' B v l := ⟨h.1, own_upd h.2 u hn⟩
theorem OwnK.upd0 {w w' : World} {B : Nat} {v : Value} {l : List (List H8)} (h : OwnK w B v l) (u : Upd [] w w') : OwnK w' B v l := ⟨h.1, own_upd h.2 u (by simp)⟩
theorem OwnK.lt {w : World} {B : Nat} {v : Value} {l : List (List H8)} (h : OwnK w B v l) : ∀ k, v.ownBlock = some k → B ≤ k ∧ k < w.heap.size := own_block h.2
theorem OwnK.isSlice {w : World} {B : Nat} {v : Value} {l : List (List H8)} (h : OwnK w B v l) : ∃ a cap, v = .slice a l.length cap := by
  rcases h.2.2 with ⟨rfl, h0⟩ | ⟨g, cap, cur, rfl, _⟩
  · exact ⟨none, 0, by rw [h0]⟩
  · exact ⟨_, cap, rfl⟩
theorem OwnK.at {w : World} {B : Nat} {v : Value} {S : List (List H8)} (h : OwnK w B v S) (hn : 0 < S.length) :
    ∃ g cap, v = .slice (some ⟨g, 0, none⟩) S.length cap ∧ B ≤ g ∧ g < w.heap.size ∧ S.length ≤ cap ∧ cap ≤ maxLen := by
  rcases h.2.2 with ⟨_, h0⟩ | ⟨g, cap, cur, rfl, hb, hh, hn', hm, hs, ht⟩
  · omega
  · exact ⟨g, cap, rfl, hb, lt_of_heap hh, hn', hm⟩
/-- a peak's size and hash -/
theorem OwnK.elem {w : World} {B g cap n : Nat} {S : List (List H8)} (h : OwnK w B (.slice (some ⟨g, 0, none⟩) n cap) S) (i : Nat) (hi : i < S.length) :
    w.cell? ⟨g, i * 33, none⟩ = some (.int .i64 S[i].length) ∧ w.rangeAt g (i * 33 + 1) ((rootOf S[i]).map U8) := by
  rcases h.2.2 with ⟨_, h0⟩ | ⟨g', cap', cur, e, hb, hh, hn', hm, hs, ht⟩
  · omega
  · injection e with e1 e2 e3
    injection e1 with e1
    injection e1 with e1
    subst e1
    have hc : ∀ j, j < 33 → w.cell? ⟨g, i * 33 + j, none⟩ = (peakC S[i])[j]? := fun j hj => by
      rw [cell_of_row _ _ _ _ _ _ hh, ← kCells_get S i j h.1 hi hj, ← ht, List.getElem?_take, if_pos (by omega), Array.getElem?_toList]
    refine ⟨by simpa [peakC] using hc 0 (by omega), fun j v hj => ?_⟩
    have hjl : j < ((rootOf S[i]).map U8).length := (List.getElem?_eq_some_iff.1 hj).1
    have h32 := h.1 _ (List.getElem_mem hi)
    rw [List.length_map, h32] at hjl
    have := hc (1 + j) (by omega)
    rw [show i * 33 + (1 + j) = i * 33 + 1 + j by omega] at this
    rw [this]
    simpa [peakC, Nat.add_comm 1] using hj
/-- the last one left out -/
theorem OwnK.cut {w : World} {B g cap n : Nat} {S : List (List H8)} (h : OwnK w B (.slice (some ⟨g, 0, none⟩) n cap) S) (k : Nat) (hk : k ≤ S.length) : OwnK w B (.slice (some ⟨g, 0, none⟩) k cap) (S.take k) := by
  have hk' : (S.take k).length = k := by simp; omega
  refine ⟨fun s hs => h.1 s (List.mem_of_mem_take hs), ?_⟩
  rw [hk', ← kCells_take S k h.1 hk]
  rcases h.2.2 with ⟨e, _⟩ | ⟨g', cap', cur, e, _⟩
  · cases e
  · injection e with e1 e2 e3
    subst e2
    have h2 := h.2
    exact own_sub h2 hk (by rw [List.length_take, kCells_length S h.1]; exact Nat.min_eq_left (by omega)) (List.take_prefix _ _)
theorem info_peak : ∃ i, Tryd.prog.info? 72 = some i ∧ (∃ z, i.zero = some z ∧ z.cells.size = 33) ∧ i.size = 33 ∧ i.bytes = 40 := by
  have h : (Tryd.prog.info? 72).map (fun i => (i.zero.map (·.cells.size), i.size, i.bytes)) = some (some 33, 33, 40) := by kernel_rfl
  cases hq : Tryd.prog.info? 72 with
  | none => rw [hq] at h; cases h
  | some i =>
    rw [hq] at h
    simp only [Option.map_some, Option.some.injEq, Prod.mk.injEq] at h
    refine ⟨i, rfl, ?_, h.2.1, h.2.2⟩
    cases hz : i.zero with
    | none => rw [hz] at h; cases h.1
    | some z => rw [hz] at h; exact ⟨z, rfl, by simpa using h.1⟩
theorem peak_fields : ∃ f0 f1, Tryd.prog.underlying 72 = some (.struct #[f0, f1]) ∧ f0.type = 3 ∧ f1.type = 27 ∧ f0.offset = 0 ∧ f1.offset = 1 := ⟨_, _, Tryd.underlying72, rfl, rfl, rfl, rfl⟩
theorem size_int1 : (Tryd.prog.info? 3).map (·.size) = some 1 := by kernel_rfl
/-- a peak, built -/
theorem built_peak (s : List H8) (h : H8) (n : Int) (hn : n = s.length) (hh : h = rootOf s) (hl : (rootOf s).length = 32) : Tryd.prog.built 72 [(0, .int .i64 n), (1, .agg (h.map U8).toArray)] = some (peakC s).toArray := by
  subst hn hh
  obtain ⟨i, hi, ⟨z, hz, hzc⟩, hs, _⟩ := info_peak
  obtain ⟨f0, f1, hu, t0, t1, o0, o1⟩ := peak_fields
  obtain ⟨ih, hih, _, hsh, _⟩ := info_hash
  cases hq : Tryd.prog.info? 3 with
  | none => have := size_int1; rw [hq] at this; cases this
  | some ii =>
    have hsi : ii.size = 1 := by have := size_int1; rw [hq] at this; simpa using this
    have := built_two (P := Tryd.prog) (s0 := 1) (s1 := 32) (v0 := .int .i64 s.length) (v1 := .agg ((rootOf s).map U8).toArray) hi hu hz (by rw [t0]; exact hq) (by rw [t1]; exact hih) o0 o1 hsi hsh hzc (by simp [Value.cells]) (by simp [Value.cells, hl])
    rw [this]
    simp [Value.cells, peakC]
theorem size_peak : (Tryd.prog.info? 72).map (·.size) = some 33 := by kernel_rfl
theorem peakC_one (s : List H8) : ∀ u ∈ peakC s, u.oneCell' = true := by
  intro u hu
  rcases List.mem_cons.1 hu with rfl | hu
  · rfl
  · obtain ⟨b, _, rfl⟩ := List.mem_map.1 hu; rfl
/-- one peak, laid into a new block -/
theorem bsK {ops : Array Oper} {rest : List Oper} {a : Act} {w : World} {Q : Exit → Act → World → Prop} {dst : Option Tmp} {type : TypeId} {pos : String} {after : Array Edge} {x1 : Operand} {l : List Value} {cs : Array Value} (hcs : l.toArray = cs) (hll : l.length = 33) (h1 : a.eval x1 = .agg cs)
    (h : ∀ g w', w.heap.size = g → w'.heap[g]? = some (.cells l.toArray 72 (0, 0)) → Upd [] w w' → wpList Tryd.prog ops Q rest (a.put dst (.slice (some ⟨g, 0, none⟩) 1 1)) w') :
    wpList Tryd.prog ops Q (⟨dst, .buildSlice 67 1 #[(0, x1)], type, pos, after, none⟩ :: rest) a w := by
  subst hcs
  obtain ⟨i, hi, ⟨z, hz, hzc⟩, hs, hby⟩ := info_peak
  refine wpList_buildSlice rfl 67 72 1 _ rfl l.toArray i z Tryd.underlying67 hi hz (by rw [hs]; decide) (by rw [hs]; decide) ?_ (h _ _ rfl (hget_new rfl) ((Upd.refl _ w).alloc _))
  have := Great.fill_whole (s := 33) (by omega) [.agg l.toArray] ((Array.range (1 * i.size)).map (z.cells[· % z.cells.size]!)) (fun v hv => by rw [List.mem_singleton.1 hv]; simp [Value.cells, hll]) (by rw [hs]; simp)
  simp only [List.map_toArray, List.map_cons, List.map_nil, h1, hs]
  rw [hs] at this
  simpa [Value.cells] using this
/-- one peak more behind a row of them -/
theorem appendK {ops : Array Oper} {rest : List Oper} {a : Act} {w : World} {Q : Exit → Act → World → Prop} {dst : Option Tmp} {type : TypeId} {pos : String} {after : Array Edge} {s x : Operand} {B g : Nat} {v : Value} {S : List (List H8)} {t : List H8} {T : TypeId} {fr : Nat × Nat}
    (hs : a.eval s = v) (hx : a.eval x = .slice (some ⟨g, 0, none⟩) 1 1) (hown : OwnK w B v S) (hg : w.heap[g]? = some (.cells (peakC t).toArray T fr)) (ht : (rootOf t).length = 32) (hl : S.length ≤ 1000000) (hbase : B ≤ w.heap.size)
    (h : ∀ v' w', OwnK w' B v' (S ++ [t]) → Upd v.ownBlock.toList w w' → (v'.ownBlock = v.ownBlock ∨ v'.ownBlock = some w.heap.size) → wpList Tryd.prog ops Q rest (a.put dst v') w') :
    wpList Tryd.prog ops Q (⟨dst, .call { callee := .builtin .append, args := #[s, x], argTypes := #[67, 67] }, type, pos, after, none⟩ :: rest) a w := by
  obtain ⟨i, hi, ⟨z, hz, hzc⟩, hsz, hby⟩ := info_peak
  refine arm_append1w Tryd.underlying67 hi hz hsz hby hzc (by omega) hs hx hown.2 hg (peakC_length ht) (peakC_one t) (by simp [maxLen]; omega) (by omega) hbase (fun v' w' h1 h2 h3 => h v' w' ⟨fun z hz => ?_, ?_⟩ h2 h3)
  · rcases List.mem_append.1 hz with hz | hz
    · exact hown.1 z hz
    · rw [List.mem_singleton.1 hz]; exact ht
  · rw [List.length_append]
    simpa [kCells] using h1
/-- an aggregate, built in its turn -/
theorem arm_build {P : Program} {ops : Array Oper} {rest : List Oper} {a : Act} {w : World} {Q : Exit → Act → World → Prop} {dst : Option Tmp} {ty type : TypeId} {pos : String} {after : Array Edge} {parts : Array (Nat × Operand)} {cs : Array Value}
    (hf : P.built ty (parts.map fun (i, x) => (i, a.eval x)).toList = some cs) (h : wpList P ops Q rest (a.put dst (.agg cs)) w) : wpList P ops Q (⟨dst, .build ty parts, type, pos, after, none⟩ :: rest) a w :=
  wpList_plain rfl fun _ hK => wp_build ty parts rfl (by rw [hf]; rfl) (by simp only [hf, Option.getD_some]; exact hK _ _ h)
theorem arm_build2 {P : Program} {ops : Array Oper} {rest : List Oper} {a : Act} {w : World} {Q : Exit → Act → World → Prop} {dst : Option Tmp} {ty type : TypeId} {pos : String} {after : Array Edge} {x0 x1 : Operand} {v0 v1 : Value} {cs : Array Value}
    (h0 : a.eval x0 = v0) (h1 : a.eval x1 = v1) (hf : P.built ty [(0, v0), (1, v1)] = some cs) (h : wpList P ops Q rest (a.put dst (.agg cs)) w) : wpList P ops Q (⟨dst, .build ty #[(0, x0), (1, x1)], type, pos, after, none⟩ :: rest) a w := by
  subst h0 h1
  exact arm_build (by simpa using hf) h
end Go.Proofs.YtdfoffheolbokaaDoor
