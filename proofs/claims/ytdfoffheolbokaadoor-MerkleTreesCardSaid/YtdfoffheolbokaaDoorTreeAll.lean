/-
  Merged by merge.py out of: Peaks, Tree, TreeRoot, TreeApp.
-/
import Derived.Test.YtdfoffheolbokaaDoorPairRow
import Derived.Test.YtdfoffheolbokaaDoorMerkle
namespace Go.Proofs.YtdfoffheolbokaaDoor
section
open Go Go.RowKit Go.Proofs
/-- one element more behind a row of one's own, and where the new row lies -/
theorem arm_append1w {P : Program} {ops : Array Oper} {rest : List Oper} {a : Act} {w : World} {Q : Exit → Act → World → Prop} {dst : Option Tmp} {t type e : TypeId} {pos : String} {after : Array Edge} {s x : Operand} {i : TypeInfo} {z : Value} {size bytes B n g : Nat} {v : Value} {xs cs : List Value} {T : TypeId} {fr : Nat × Nat}
    (ht : P.underlying t = some (.slice e)) (hi : P.info? e = some i) (hz : i.zero = some z) (hsize : i.size = size) (hby : i.bytes = bytes) (hzs : z.cells.size = size) (hsz : 0 < size)
    (hs : a.eval s = v) (hx : a.eval x = .slice (some ⟨g, 0, none⟩) 1 1) (hown : w.ownsRow B e size v n xs) (hg : w.heap[g]? = some (.cells cs.toArray T fr)) (hl : cs.length = size) (h1 : ∀ u ∈ cs, u.oneCell' = true)
    (h63 : n + 1 ≤ maxLen) (hbytes : (n + 1) * bytes ≤ 140737488355328) (hbase : B ≤ w.heap.size)
    (h : ∀ v' w', w'.ownsRow B e size v' (n + 1) (xs ++ cs) → Upd v.ownBlock.toList w w' → (v'.ownBlock = v.ownBlock ∨ v'.ownBlock = some w.heap.size) → wpList P ops Q rest (a.put dst v') w') :
    wpList P ops Q (⟨dst, .call { callee := .builtin .append, args := #[s, x], argTypes := #[t, t] }, type, pos, after, none⟩ :: rest) a w :=
  wpList_append_keep rfl s x t rfl B e i z size bytes ht hi hz hsize hby hzs hsz v n xs hs hown ⟨g, 0, none⟩ 1 1 cs hx (by omega)
    (fun j u hj => by rw [Addr.add_lit, cell_of_row w g _ _ _ _ hg]; simpa using hj) h1 h63 hbytes hbase
    (fun v' w' h2 _ h4 h5 => h v' w' h2 ((Upd.refl _ w).grown h4 (fun k hk _ => by simp [hk])) h5.block)
/-- one hash more behind a row of them, and where the new row lies -/
theorem appendHw {ops : Array Oper} {rest : List Oper} {a : Act} {w : World} {Q : Exit → Act → World → Prop} {dst : Option Tmp} {type : TypeId} {pos : String} {after : Array Edge} {s x : Operand} {B g : Nat} {v : Value} {l : List H8} {y : H8} {T : TypeId} {fr : Nat × Nat}
    (hs : a.eval s = v) (hx : a.eval x = .slice (some ⟨g, 0, none⟩) 1 1) (hown : OwnH w B v l) (hg : w.heap[g]? = some (.cells (y.map U8).toArray T fr)) (hy : y.length = 32) (hl : l.length ≤ 1000000) (hbase : B ≤ w.heap.size)
    (h : ∀ v' w', OwnH w' B v' (l ++ [y]) → Upd v.ownBlock.toList w w' → (v'.ownBlock = v.ownBlock ∨ v'.ownBlock = some w.heap.size) → wpList Tryd.prog ops Q rest (a.put dst v') w') :
    wpList Tryd.prog ops Q (⟨dst, .call { callee := .builtin .append, args := #[s, x], argTypes := #[25, 25] }, type, pos, after, none⟩ :: rest) a w := by
  obtain ⟨i, hi, hz, hsz, hby⟩ := info_hash
  refine arm_append1w Tryd.underlying25 hi hz hsz hby (by simp [Value.cells, zrow8_size]) (by omega) hs hx hown.2 hg (by simp [hy]) (fun u hu => by obtain ⟨b, _, rfl⟩ := List.mem_map.1 hu; rfl) (by simp [maxLen]; omega) (by omega) hbase (fun v' w' h1 h2 h3 => h v' w' ⟨fun z hz => ?_, ?_⟩ h2 h3)
  · rcases List.mem_append.1 hz with hz | hz
    · exact hown.1 z hz
    · rw [List.mem_singleton.1 hz]; exact hy
  · rw [List.length_append, List.flatten_append, List.map_append]
    simpa using h1
/-- a peak's cells -/
def peakC (s : List H8) : List Value := .int .i64 s.length :: (rootOf s).map U8
def kCells (S : List (List H8)) : List Value := S.flatMap peakC
theorem peakC_length {s : List H8} (h : (rootOf s).length = 32) : (peakC s).length = 33 := by simp [peakC, h]
theorem kCells_length : ∀ (S : List (List H8)), (∀ s ∈ S, (rootOf s).length = 32) → (kCells S).length = S.length * 33
  | [], _ => rfl
  | s :: S, h => by
    have h1 := kCells_length S (fun t ht => h t (by simp [ht]))
    have h2 := peakC_length (h s (by simp))
    simp only [kCells, List.flatMap_cons, List.length_append, List.length_cons] at h1 ⊢
    omega
theorem kCells_get : ∀ (S : List (List H8)) (i j : Nat) (_ : ∀ s ∈ S, (rootOf s).length = 32) (hi : i < S.length), j < 33 → (kCells S)[i * 33 + j]? = (peakC S[i])[j]?
  | s :: S, 0, j, h, _, hj => by
    have h2 := peakC_length (h s (by simp))
    simp only [kCells, List.flatMap_cons, List.getElem_cons_zero]
    rw [List.getElem?_append_left (by omega)]
    simp
  | s :: S, i + 1, j, h, hi, hj => by
    have h1 := kCells_get S i j (fun t ht => h t (by simp [ht])) (by simpa using hi) hj
    have h2 := peakC_length (h s (by simp))
    simp only [kCells, List.flatMap_cons, List.getElem_cons_succ] at h1 ⊢
    rw [List.getElem?_append_right (by omega), ← h1]
    congr 1
    omega
theorem kCells_take (S : List (List H8)) (k : Nat) (h : ∀ s ∈ S, (rootOf s).length = 32) (hk : k ≤ S.length) : (kCells S).take (k * 33) = kCells (S.take k) := by
  have e : kCells S = kCells (S.take k) ++ kCells (S.drop k) := by unfold kCells; rw [← List.flatMap_append, List.take_append_drop]
  have hl := kCells_length (S.take k) (fun s hs => h s (List.mem_of_mem_take hs))
  rw [e, List.take_left' (by rw [hl]; simp; omega)]
/-- a row of peaks of one's own -/
def OwnK (w : World) (B : Nat) (v : Value) (S : List (List H8)) : Prop := (∀ s ∈ S, (rootOf s).length = 32) ∧ w.ownsRow B 72 33 v S.length (kCells S)
theorem OwnK.nil (w : World) (B : Nat) : OwnK w B (.slice none 0 0) [] := ⟨by simp, World.ownsRow_nil w B _ 33⟩
theorem OwnK.upd {w w' : World} {B : Nat} {v : Value} {l : List (List H8)} {S : List Nat} (h : OwnK w B v l) (u : Upd S w w') (hn : ∀ k, v.ownBlock = some k → k ∉ S) : OwnK w' B v l := ⟨h.1, own_upd h.2 u hn⟩
theorem OwnK.upd0 {w w' : World} {B : Nat} {v : Value} {l : List (List H8)} (h : OwnK w B v l) (u : Upd [] w w') : OwnK w' B v l := ⟨h.1, own_upd h.2 u (by simp)⟩
theorem OwnK.lt {w : World} {B : Nat} {v : Value} {l : List (List H8)} (h : OwnK w B v l) : ∀ k, v.ownBlock = some k → B ≤ k ∧ k < w.heap.size := own_block h.2
theorem OwnK.isSlice {w : World} {B : Nat} {v : Value} {l : List (List H8)} (h : OwnK w B v l) : ∃ a cap, v = .slice a l.length cap := by
  rcases h.2.2 with ⟨rfl, h0⟩ | ⟨g, cap, cur, rfl, _⟩
  · exact ⟨none, 0, by rw [h0]⟩
  · exact ⟨_, cap, rfl⟩
theorem OwnK.at {w : World} {B : Nat} {v : Value} {S : List (List H8)} (h : OwnK w B v S) (hn : 0 < S.length) :
    ∃ g cap, v = .slice (some ⟨g, 0, none⟩) S.length cap ∧ B ≤ g ∧ g < w.heap.size ∧ S.length ≤ cap ∧ cap ≤ maxLen := by
  rcases h.2.2 with ⟨_, h0⟩ | ⟨g, cap, cur, rfl, hb, hh, hn', hm, hs, ht⟩
  · omega
  · exact ⟨g, cap, rfl, hb, lt_of_heap hh, hn', hm⟩
/-- a peak's size and hash -/
theorem OwnK.elem {w : World} {B g cap n : Nat} {S : List (List H8)} (h : OwnK w B (.slice (some ⟨g, 0, none⟩) n cap) S) (i : Nat) (hi : i < S.length) :
    w.cell? ⟨g, i * 33, none⟩ = some (.int .i64 S[i].length) ∧ w.rangeAt g (i * 33 + 1) ((rootOf S[i]).map U8) := by
  rcases h.2.2 with ⟨_, h0⟩ | ⟨g', cap', cur, e, hb, hh, hn', hm, hs, ht⟩
  · omega
  · injection e with e1 e2 e3
    injection e1 with e1
    injection e1 with e1
    subst e1
    have hc : ∀ j, j < 33 → w.cell? ⟨g, i * 33 + j, none⟩ = (peakC S[i])[j]? := fun j hj => by
      rw [cell_of_row _ _ _ _ _ _ hh, ← kCells_get S i j h.1 hi hj, ← ht, List.getElem?_take, if_pos (by omega), Array.getElem?_toList]
    refine ⟨by simpa [peakC] using hc 0 (by omega), fun j v hj => ?_⟩
    have hjl : j < ((rootOf S[i]).map U8).length := (List.getElem?_eq_some_iff.1 hj).1
    have h32 := h.1 _ (List.getElem_mem hi)
    rw [List.length_map, h32] at hjl
    have := hc (1 + j) (by omega)
    rw [show i * 33 + (1 + j) = i * 33 + 1 + j by omega] at this
    rw [this]
    simpa [peakC, Nat.add_comm 1] using hj
/-- the last one left out -/
theorem OwnK.cut {w : World} {B g cap n : Nat} {S : List (List H8)} (h : OwnK w B (.slice (some ⟨g, 0, none⟩) n cap) S) (k : Nat) (hk : k ≤ S.length) : OwnK w B (.slice (some ⟨g, 0, none⟩) k cap) (S.take k) := by
  have hk' : (S.take k).length = k := by simp; omega
  refine ⟨fun s hs => h.1 s (List.mem_of_mem_take hs), ?_⟩
  rw [hk', ← kCells_take S k h.1 hk]
  rcases h.2.2 with ⟨e, _⟩ | ⟨g', cap', cur, e, _⟩
  · cases e
  · injection e with e1 e2 e3
    subst e2
    have h2 := h.2
    exact own_sub h2 hk (by rw [List.length_take, kCells_length S h.1]; exact Nat.min_eq_left (by omega)) (List.take_prefix _ _)
theorem info_peak : ∃ i, Tryd.prog.info? 72 = some i ∧ (∃ z, i.zero = some z ∧ z.cells.size = 33) ∧ i.size = 33 ∧ i.bytes = 40 := by
  have h : (Tryd.prog.info? 72).map (fun i => (i.zero.map (·.cells.size), i.size, i.bytes)) = some (some 33, 33, 40) := by kernel_rfl
  cases hq : Tryd.prog.info? 72 with
  | none => rw [hq] at h; cases h
  | some i =>
    rw [hq] at h
    simp only [Option.map_some, Option.some.injEq, Prod.mk.injEq] at h
    refine ⟨i, rfl, ?_, h.2.1, h.2.2⟩
    cases hz : i.zero with
    | none => rw [hz] at h; cases h.1
    | some z => rw [hz] at h; exact ⟨z, rfl, by simpa using h.1⟩
theorem peak_fields : ∃ f0 f1, Tryd.prog.underlying 72 = some (.struct #[f0, f1]) ∧ f0.type = 3 ∧ f1.type = 27 ∧ f0.offset = 0 ∧ f1.offset = 1 := ⟨_, _, Tryd.underlying72, rfl, rfl, rfl, rfl⟩
theorem size_int1 : (Tryd.prog.info? 3).map (·.size) = some 1 := by kernel_rfl
/-- a peak, built -/
theorem built_peak (s : List H8) (h : H8) (n : Int) (hn : n = s.length) (hh : h = rootOf s) (hl : (rootOf s).length = 32) : Tryd.prog.built 72 [(0, .int .i64 n), (1, .agg (h.map U8).toArray)] = some (peakC s).toArray := by
  subst hn hh
  obtain ⟨i, hi, ⟨z, hz, hzc⟩, hs, _⟩ := info_peak
  obtain ⟨f0, f1, hu, t0, t1, o0, o1⟩ := peak_fields
  obtain ⟨ih, hih, _, hsh, _⟩ := info_hash
  cases hq : Tryd.prog.info? 3 with
  | none => have := size_int1; rw [hq] at this; cases this
  | some ii =>
    have hsi : ii.size = 1 := by have := size_int1; rw [hq] at this; simpa using this
    have := built_two (P := Tryd.prog) (s0 := 1) (s1 := 32) (v0 := .int .i64 s.length) (v1 := .agg ((rootOf s).map U8).toArray) hi hu hz (by rw [t0]; exact hq) (by rw [t1]; exact hih) o0 o1 hsi hsh hzc (by simp [Value.cells]) (by simp [Value.cells, hl])
    rw [this]
    simp [Value.cells, peakC]
theorem size_peak : (Tryd.prog.info? 72).map (·.size) = some 33 := by kernel_rfl
theorem peakC_one (s : List H8) : ∀ u ∈ peakC s, u.oneCell' = true := by
  intro u hu
  rcases List.mem_cons.1 hu with rfl | hu
  · rfl
  · obtain ⟨b, _, rfl⟩ := List.mem_map.1 hu; rfl
/-- one peak, laid into a new block -/
theorem bsK {ops : Array Oper} {rest : List Oper} {a : Act} {w : World} {Q : Exit → Act → World → Prop} {dst : Option Tmp} {type : TypeId} {pos : String} {after : Array Edge} {x1 : Operand} {l : List Value} {cs : Array Value} (hcs : l.toArray = cs) (hll : l.length = 33) (h1 : a.eval x1 = .agg cs)
    (h : ∀ g w', w.heap.size = g → w'.heap[g]? = some (.cells l.toArray 72 (0, 0)) → Upd [] w w' → wpList Tryd.prog ops Q rest (a.put dst (.slice (some ⟨g, 0, none⟩) 1 1)) w') :
    wpList Tryd.prog ops Q (⟨dst, .buildSlice 67 1 #[(0, x1)], type, pos, after, none⟩ :: rest) a w := by
  subst hcs
  obtain ⟨i, hi, ⟨z, hz, hzc⟩, hs, hby⟩ := info_peak
  refine wpList_buildSlice rfl 67 72 1 _ rfl l.toArray i z Tryd.underlying67 hi hz (by rw [hs]; decide) (by rw [hs]; decide) ?_ (h _ _ rfl (hget_new rfl) ((Upd.refl _ w).alloc _))
  have := Great.fill_whole (s := 33) (by omega) [.agg l.toArray] ((Array.range (1 * i.size)).map (z.cells[· % z.cells.size]!)) (fun v hv => by rw [List.mem_singleton.1 hv]; simp [Value.cells, hll]) (by rw [hs]; simp)
  simp only [List.map_toArray, List.map_cons, List.map_nil, h1, hs]
  rw [hs] at this
  simpa [Value.cells] using this
/-- one peak more behind a row of them -/
theorem appendK {ops : Array Oper} {rest : List Oper} {a : Act} {w : World} {Q : Exit → Act → World → Prop} {dst : Option Tmp} {type : TypeId} {pos : String} {after : Array Edge} {s x : Operand} {B g : Nat} {v : Value} {S : List (List H8)} {t : List H8} {T : TypeId} {fr : Nat × Nat}
    (hs : a.eval s = v) (hx : a.eval x = .slice (some ⟨g, 0, none⟩) 1 1) (hown : OwnK w B v S) (hg : w.heap[g]? = some (.cells (peakC t).toArray T fr)) (ht : (rootOf t).length = 32) (hl : S.length ≤ 1000000) (hbase : B ≤ w.heap.size)
    (h : ∀ v' w', OwnK w' B v' (S ++ [t]) → Upd v.ownBlock.toList w w' → (v'.ownBlock = v.ownBlock ∨ v'.ownBlock = some w.heap.size) → wpList Tryd.prog ops Q rest (a.put dst v') w') :
    wpList Tryd.prog ops Q (⟨dst, .call { callee := .builtin .append, args := #[s, x], argTypes := #[67, 67] }, type, pos, after, none⟩ :: rest) a w := by
  obtain ⟨i, hi, ⟨z, hz, hzc⟩, hsz, hby⟩ := info_peak
  refine arm_append1w Tryd.underlying67 hi hz hsz hby hzc (by omega) hs hx hown.2 hg (peakC_length ht) (peakC_one t) (by simp [maxLen]; omega) (by omega) hbase (fun v' w' h1 h2 h3 => h v' w' ⟨fun z hz => ?_, ?_⟩ h2 h3)
  · rcases List.mem_append.1 hz with hz | hz
    · exact hown.1 z hz
    · rw [List.mem_singleton.1 hz]; exact ht
  · rw [List.length_append]
    simpa [kCells] using h1
/-- an aggregate, built in its turn -/
theorem arm_build {P : Program} {ops : Array Oper} {rest : List Oper} {a : Act} {w : World} {Q : Exit → Act → World → Prop} {dst : Option Tmp} {ty type : TypeId} {pos : String} {after : Array Edge} {parts : Array (Nat × Operand)} {cs : Array Value}
    (hf : P.built ty (parts.map fun (i, x) => (i, a.eval x)).toList = some cs) (h : wpList P ops Q rest (a.put dst (.agg cs)) w) : wpList P ops Q (⟨dst, .build ty parts, type, pos, after, none⟩ :: rest) a w :=
  wpList_plain rfl fun _ hK => wp_build ty parts rfl (by rw [hf]; rfl) (by simp only [hf, Option.getD_some]; exact hK _ _ h)
theorem arm_build2 {P : Program} {ops : Array Oper} {rest : List Oper} {a : Act} {w : World} {Q : Exit → Act → World → Prop} {dst : Option Tmp} {ty type : TypeId} {pos : String} {after : Array Edge} {x0 x1 : Operand} {v0 v1 : Value} {cs : Array Value}
    (h0 : a.eval x0 = v0) (h1 : a.eval x1 = v1) (hf : P.built ty [(0, v0), (1, v1)] = some cs) (h : wpList P ops Q rest (a.put dst (.agg cs)) w) : wpList P ops Q (⟨dst, .build ty #[(0, x0), (1, x1)], type, pos, after, none⟩ :: rest) a w := by
  subst h0 h1
  exact arm_build (by simpa using hf) h
end
section
open Go Go.RowKit Go.Proofs
/-- a cell in the midst of a block is written -/
theorem arm_store_at {P : Program} {ops : Array Oper} {rest : List Oper} {a : Act} {w : World} {Q : Exit → Act → World → Prop} {dst : Option Tmp} {ty type : TypeId} {pos : String} {after : Array Edge} {x y : Operand} {g k : Nat} {t : TypeId} {cells : Array Value} {v : Value}
    (hx : a.eval x = .pointer (some ⟨g, k, none⟩)) (hy : a.eval y = v) (hg : w.heap[g]? = some (.cells cells t (0, 0))) (hk : k < cells.size) (hvc : v.cells = #[v]) (hi : (P.info? ty).map (·.size) = some 1) (h1 : v.oneCell' = true)
    (h : ∀ w', w'.heap[g]? = some (.cells (cells.setIfInBounds k v) t (0, 0)) → Upd [g] w w' → w'.heap.size = w.heap.size → wpList P ops Q rest (a.put dst undef) w') : wpList P ops Q (⟨dst, .store ty x y, type, pos, after, none⟩ :: rest) a w := by
  refine wpList_plain rfl fun K hK => ?_
  have hg' : w.heap[g]? = some (.cells cells.toList.toArray t (0, 0)) := by simpa using hg
  have hs : (storeVar ty ⟨g, k, none⟩ v).run P w = .ok () (w.setCells g k [v]) := by
    have := run_storeVar_mid (P := P) w g k ty #[v] (there_of_row hg' k 1 (by simpa using Nat.succ_le_of_lt hk)) hi (by simpa using h1)
    rw [← this]
    unfold storeVar
    rw [hvc]
    rfl
  unfold Oper.wp execOp
  simp only [hx, hy, Instr.storeAt, Instr.sureAddr, Sem.run_bind, Sem.run_pure, Result.andThen_ok, hs]
  refine hK _ _ (h _ ?_ ((Upd.refl _ w).setCells g k _ (by simp)) (setCells_size g _ k w))
  exact heap_setCell_any w g k t (0, 0) cells v hg
theorem quiet_build2 {P : Program} {C : World → Prop} {a : Act} {o : Oper} (ty : TypeId) (x0 x1 : Operand) (ho : o.op = .build ty #[(0, x0), (1, x1)]) {v0 v1 : Value} {cs : Array Value} (h0 : a.eval x0 = v0) (h1 : a.eval x1 = v1) (hf : P.built ty [(0, v0), (1, v1)] = some cs) :
    ∀ w, C w → o.quietAt P a C w (.agg cs) := by
  intro w hw
  subst h0 h1
  unfold Oper.quietAt execOp
  simp only [ho, Sem.run_bind, Sem.run_pure, Result.andThen_ok, List.map_toArray, List.map_cons, List.map_nil, run_build w ty #[(0, a.eval x0), (1, a.eval x1)] cs (by simpa using hf)]
  exact ⟨rfl, rfl⟩
theorem wpQuiet_valK {P : Program} {ops : Array Oper} {C : World → Prop} {Q : Act → Prop} {a : Act} {o : Oper} {rest : List Oper} {v : Value} (hw : Region.wanted o (yielded ops a.tmps) = true) (h : ∀ w, C w → o.quietAt P a C w v)
    (hn : ∀ K : Act → Prop, (∀ a, wpQuiet P ops C Q rest a → K a) → K (a.put o.dst v)) : wpQuiet P ops C Q (o :: rest) a := wpQuiet_val hw h (hn _ fun _ h => h)
/-- a tree of these leaves: its block, its row of peaks -/
def TreeAt (w : World) (bt : Nat) (pv : Value) (l : List H8) : Prop := (∀ x ∈ l, x.length = 32) ∧ ∃ S, Peaks S l ∧ w.heap[bt]? = some (.cells #[pv, .int .i64 l.length] 69 (0, 0)) ∧ OwnK w (bt + 1) pv S
/-- two values share no block -/
def Sep (a b : Value) : Prop := ∀ k, a.ownBlock = some k → b.ownBlock ≠ some k
theorem Sep.symm {a b : Value} (h : Sep a b) : Sep b a := fun k h1 h2 => h k h2 h1
theorem Sep.grow {a b a' : Value} {n : Nat} (h : Sep a b) (hg : a'.ownBlock = a.ownBlock ∨ ∃ k, a'.ownBlock = some k ∧ n ≤ k) (hb : ∀ k, b.ownBlock = some k → k < n) : Sep a' b := fun k h1 h2 => by
  rcases hg with hg | ⟨j, hj, hn⟩
  · exact h k (by rw [← hg]; exact h1) h2
  · have := hb k h2
    rw [hj] at h1
    injection h1 with h1
    omega
theorem TreeAt.lt {w : World} {bt : Nat} {pv : Value} {l : List H8} (h : TreeAt w bt pv l) : bt < w.heap.size ∧ ∀ k, pv.ownBlock = some k → bt < k ∧ k < w.heap.size := by
  obtain ⟨_, S, _, hh, ho⟩ := h
  exact ⟨lt_of_heap hh, fun k hk => by have := ho.lt k hk; omega⟩
theorem TreeAt.upd {w w' : World} {bt : Nat} {pv : Value} {l : List H8} {T : List Nat} (h : TreeAt w bt pv l) (u : Upd T w w') (h1 : bt ∉ T) (h2 : ∀ k, pv.ownBlock = some k → k ∉ T) : TreeAt w' bt pv l := by
  obtain ⟨hl, S, hp, hh, ho⟩ := h
  exact ⟨hl, S, hp, u.heap hh h1, ho.upd u h2⟩
theorem TreeAt.upd0 {w w' : World} {bt : Nat} {pv : Value} {l : List H8} (h : TreeAt w bt pv l) (u : Upd [] w w') : TreeAt w' bt pv l := h.upd u (by simp) (by simp)
set_option maxRecDepth 100000 in
theorem new_ (w : World) : Calls Tryd.prog 11 #[] w fun e w' => ∃ b, e = .returned (.pointer (some ⟨b, 0, none⟩)) ∧ b = w.heap.size ∧ TreeAt w' b (.slice none 0 0) [] ∧ Upd [] w w' := by
  have hb : Tryd.prog.built 69 [] = some #[.slice none 0 0, .int .i64 0] := by kernel_rfl
  go_enter Tryd.func11, Tryd.ntmps11
  go_wp2_with (first
    | (with_reducible refine arm_build0 hb ?_)
    | (with_reducible refine arm_box (by with_unfolding_all exact rfl) ?_))
  intro b w1 hb1 k1 hU1 hz1
  change w1.heap[b]? = some (.cells #[.slice none 0 0, .int .i64 0] 69 (0, 0)) at k1
  go_wp2_with (fail)
  go_ret
  exact ⟨b, rfl, hb1.symm, ⟨by simp, [], Peaks.nil, k1, OwnK.nil _ _⟩, hU1⟩
set_option maxRecDepth 100000 in
theorem size_ (w : World) (bt : Nat) (pv : Value) (l : List H8) (h : TreeAt w bt pv l) : Calls Tryd.prog 14 #[.pointer (some ⟨bt, 0, none⟩)] w fun e w' => e = .returned (.int .i64 l.length) ∧ Upd [] w w' := by
  obtain ⟨_, S, _, hh, _⟩ := h
  obtain ⟨n, hn⟩ : ∃ n, l.length = n := ⟨_, rfl⟩
  rw [hn] at hh ⊢
  have hc : w.cell? ⟨bt, 1, none⟩ = some (.int .i64 n) := by rw [cell_of_row _ _ _ _ _ _ hh]; rfl
  clear hh hn
  go_enter Tryd.func14, Tryd.ntmps14
  go_wp2_with (fail)
  go_ret
  exact ⟨rfl, Upd.refl _ _⟩
end
section
open Go Go.RowKit Go.Proofs
theorem quiet_of_yields {P : Program} {C : World → Prop} {a : Act} {o : Oper} {v : Value} (h : ∀ w, C w → (execOp a.eval o).run P w = .ok (.value v) w) : ∀ w, C w → o.quietAt P a C w v := by
  intro w hw
  unfold Oper.quietAt
  rw [h w hw]
  exact ⟨rfl, rfl⟩
set_option maxRecDepth 100000 in
set_option maxHeartbeats 6400000 in
theorem troot_ (w : World) (bt : Nat) (pv : Value) (l : List H8) (h : TreeAt w bt pv l) (hln : l.length ≤ 65536) (hg : Gl256 w) (hf : GlFirst256 w) :
    Calls Tryd.prog 13 #[.pointer (some ⟨bt, 0, none⟩)] w fun e w' => e = .returned (.agg ((rootOf l).map U8).toArray) ∧ Upd [] w w' := by
  obtain ⟨hll, S, hP, hh, hO⟩ := h
  have hRl := rootOf_length l hll
  have hKl := peaks_bound hP
  have hPr := hP.root
  obtain ⟨A, cap, e⟩ := hO.isSlice
  obtain ⟨K, hK⟩ : ∃ K, S.length = K := ⟨_, rfl⟩
  rw [hK] at e hKl
  rw [e] at hh hO
  have HSN : Hid (∀ W, Upd [] w W → Calls Tryd.prog 17 #[.slice none 0 0] W fun e w' => e = .returned (.agg ((sha256 []).map U8).toArray) ∧ Upd [] W w') := fun W hW => sum256 W _ [] (RdB.nil W) (by simp) (hg.upd hW (by simp)) (hf.upd hW (by simp))
  have HND : Hid (∀ W (x y : H8), x.length = 32 → y.length = 32 → Upd [] w W → Calls Tryd.prog 20 #[.agg (x.map U8).toArray, .agg (y.map U8).toArray] W fun e w' => e = .returned (.agg ((nodeH x y).map U8).toArray) ∧ Upd [] W w') := fun W x y hx hy hW => node_ W x y hx hy (hg.upd hW (by simp)) (hf.upd hW (by simp))
  by_cases h0 : K = 0
  · subst h0
    have hS : S = [] := List.eq_nil_of_length_eq_zero hK
    have hR : rootOf l = sha256 [] := by rw [← hPr, hS]; rfl
    rw [hR] at hRl ⊢
    obtain ⟨R, hRe⟩ : ∃ R, sha256 [] = R := ⟨_, rfl⟩
    rw [hRe] at hRl HSN ⊢
    have hs := szrow hRl
    have ho := sameZ hRl
    have ha := oneAll R
    obtain ⟨cR, hcR⟩ : ∃ c, (R.map U8).toArray = c := ⟨_, rfl⟩
    rw [hcR] at hs ho ha HSN ⊢
    clear hO hK hPr hR hRe hcR hS hP hRl hll
    go_enter Tryd.func13, Tryd.ntmps13
    go_wp2_with (with_reducible refine arm_alloc (zero_h32 _) ?_)
    intro b2 w2 hb2 k2 hU2 hz2
    change w2.heap[b2]? = some (.cells (zrow8 32) 27 (0, 0)) at k2
    have hh2 := hU2.heap hh (by simp)
    have hc : w2.cell? ⟨bt, 0, none⟩ = some (.slice A 0 cap) := by rw [cell_of_row _ _ _ _ _ _ hh2]; rfl
    go_wp2_with (fail)
    with_reducible refine (HSN.out _ hU2).mono ?_
    rintro e w3 ⟨rfl, hU3⟩
    have k3 := hU3.heap k2 (by simp)
    go_wp2_with (with_reducible refine arm_store (by with_unfolding_all exact rfl) (by with_unfolding_all exact rfl) k3 hs ho ha ?_)
    intro w4 k4 hX4 hz4
    go_wp2_with (fail)
    refine bodyPost_ret (v := .agg cR) (results_cell_row rfl _ _ b2 27 _ (0, 0) _ rfl k4 Tryd.underlying27 rfl hs) rfl ⟨rfl, ?_⟩
    exact (hU2.trans hU3).trans' hX4 (fun i hm hi => by simp at hm; omega)
  · obtain ⟨r, hr⟩ : ∃ r, K = r + 1 := ⟨K - 1, by omega⟩
    obtain ⟨g, cap', eA, hgb, hgl, _, _⟩ := hO.at (by omega)
    injection eA with eA eA2 eA3
    subst eA
    have hrS : r < S.length := by omega
    have hel := hO.elem r hrS
    have hl0 : (rootOfPeaks (S.drop r)) = rootOf S[r] := rootOfPeaks_last S r (by omega)
    have h32 := hO.1 _ (List.getElem_mem hrS)
    rw [← hl0] at hel h32
    have HDL : Hid (∀ j, j ≤ r → (rootOfPeaks (S.drop j)).length = 32) := fun j hj => by
      by_cases hjr : j = r
      · subst hjr; exact h32
      · rw [rootOfPeaks_drop S j (by omega)]; exact nodeH_length _ _
    have h0r : rootOfPeaks (S.drop 0) = rootOf l := by rw [List.drop_zero]; exact hPr
    rw [← h0r]
    have HSK := Lib.hid hK
    have HO := Lib.hid hO
    have k1' : (K : Int) - 1 = (r : Int) := by omega
    have k2' : (K : Int) - 2 = (r : Int) - 1 := by omega
    have k3' : (r : Int) < (K : Int) := by omega
    have k4' : (K : Int) ≤ 65536 := by omega
    have k5' : ((K : Int) == 0) = false := by simp; omega
    have k6' : r < K := by omega
    have hs := szrow h32
    have ho := sameZ h32
    have ha := oneAll (rootOfPeaks (S.drop r))
    have hsl := szlist h32
    have hrg := hel.2
    obtain ⟨H, hH⟩ : ∃ H, rootOfPeaks (S.drop r) = H := ⟨_, rfl⟩
    rw [hH] at hs ho ha hsl hrg
    have HH := Lib.hid hH
    obtain ⟨lH, hlH⟩ : ∃ c, H.map U8 = c := ⟨_, rfl⟩
    rw [hlH] at hs ho ha hsl hrg
    have HLH := Lib.hid hlH
    have HH0 := Lib.hid hh
    clear hel hl0 h32 h0r hK hO hPr hP hRl hll hlH hH eA2 eA3 hr
    go_enter Tryd.func13, Tryd.ntmps13
    go_wp2_with (with_reducible refine arm_alloc (zero_h32 _) ?_)
    intro b2 w2 hb2 k2 hU2 hz2
    change w2.heap[b2]? = some (.cells (zrow8 32) 27 (0, 0)) at k2
    have hh2 := hU2.heap hh (by simp)
    have hc : w2.cell? ⟨bt, 0, none⟩ = some (.slice (some ⟨g, 0, none⟩) K cap) := by rw [cell_of_row _ _ _ _ _ _ hh2]; rfl
    have hrg2 : w2.rangeAt g (r * 33 + 1) lH := fun j v hj => hU2.cell (hrg j v hj) (by simp)
    go_wp2_with (first
      | (with_reducible refine arm_load_mid (g := g) (k := r * 33 + 1) (by with_unfolding_all exact rfl) hrg2 Tryd.underlying27 rfl hsl ?_)
      | (with_reducible refine arm_alloc (zero_h32 _) ?_))
    intro b4 w4 hb4 k4 hU4 hz4
    change w4.heap[b4]? = some (.cells (zrow8 32) 27 (0, 0)) at k4
    go_wp2_with (with_reducible refine arm_store (by with_unfolding_all exact rfl) (by with_unfolding_all exact rfl) k4 hs ho ha ?_)
    intro w5 k5 hX5 hz5
    have hU5 := hU4.fresh hb4 hX5
    have k25 := hU5.heap k2 (by simp)
    have hV5 := hU2.trans hU5
    have hne : b2 ≠ b4 := by have := lt_of_heap k2; omega
    have hlb4 : w.heap.size ≤ b4 := by have := hU2.size; omega
    have hlb2 : w.heap.size ≤ b2 := by omega
    have HK5 : Hid (w5.heap[b4]? = some (.cells ((rootOfPeaks (S.drop r)).map U8).toArray 27 (0, 0))) := by
      show w5.heap[b4]? = _
      rw [HH.out, HLH.out]; exact k5
    have HK25 := Lib.hid k25
    have HV5 := Lib.hid hV5
    clear hb2 k2 hU2 hz2 hh2 hc hrg2 hb4 k4 hU4 hz4 k5 hX5 hz5 hU5 k25 hV5 hs ho ha hsl hrg HH HLH hh
    go_wp2_with (fail)
    go_loopw [5] (fun iv wr => ∃ k : Nat, k ≤ r ∧ iv = .int .i64 ((k : Int) - 1) ∧ wr.heap[b4]? = some (.cells ((rootOfPeaks (S.drop k)).map U8).toArray 27 (0, 0)) ∧ Upd [b4] w5 wr) (fun iv _ => (intOf iv + 1).toNat)
    case atStart => exact ⟨r, Nat.le_refl _, rfl, HK5.out, Upd.refl _ _⟩
    case round =>
      obtain ⟨k, hk, rfl, k4, hU⟩ := hrel
      have HU := Lib.hid hU
      obtain ⟨wo, rfl⟩ : ∃ wo : World, wo = wr := ⟨_, rfl⟩
      have hV : Upd [] w wo := HV5.out.trans' hU (fun i hm hi => by simp at hm; omega)
      have HV := Lib.hid hV
      clear hU hV
      rcases k with _ | j
      · rw [show (((0 : Nat) : Int) - 1) = -1 by rfl]
        have hFl := HDL.out 0 (by omega)
        obtain ⟨F, hF⟩ : ∃ F, rootOfPeaks (S.drop 0) = F := ⟨_, rfl⟩
        rw [hF] at k4 hFl
        have HF0 := Lib.hid hF
        have hs := szrow hFl
        have ho := sameZ hFl
        have ha := oneAll F
        obtain ⟨cF, hcF⟩ : ∃ c, (F.map U8).toArray = c := ⟨_, rfl⟩
        rw [hcF] at k4 hs ho ha
        have HCF := Lib.hid hcF
        have k2 := HU.out.heap HK25.out (by simpa using hne)
        clear hF hcF hFl
        go_wp2_with (first
          | (with_reducible refine arm_load (by with_unfolding_all exact rfl) k4 Tryd.underlying27 (by with_unfolding_all exact rfl) hs ?_)
          | (with_reducible refine arm_store (by with_unfolding_all exact rfl) (by with_unfolding_all exact rfl) k2 hs ho ha ?_))
        intro w6 k6 hX6 hz6
        go_wp2_with (fail)
        refine bodyPost_ret (v := .agg cF) (results_cell_row rfl _ _ b2 27 _ (0, 0) _ rfl k6 Tryd.underlying27 rfl hs) rfl ⟨by rw [HF0.out, HCF.out], ?_⟩
        exact HV.out.trans' hX6 (fun i hm hi => by simp at hm; omega)
      · rw [show (((j + 1 : Nat) : Int) - 1) = (j : Int) by omega]
        have hjK : (j : Int) < (K : Int) := by omega
        have hjn : j < K := by omega
        have hjS : j < S.length := by rw [HSK.out]; exact hjn
        have hOw := HO.out.upd0 HV.out
        obtain ⟨_, hrj⟩ := hOw.elem j hjS
        have hxl := HO.out.1 _ (List.getElem_mem hjS)
        have hyl := HDL.out (j + 1) hk
        have hst := rootOfPeaks_drop S j (by rw [HSK.out]; omega)
        have hHl := HDL.out j (by omega)
        obtain ⟨x, hx⟩ : ∃ x, rootOf S[j] = x := ⟨_, rfl⟩
        obtain ⟨y, hy⟩ : ∃ x, rootOfPeaks (S.drop (j + 1)) = x := ⟨_, rfl⟩
        obtain ⟨H2, hH2⟩ : ∃ H, rootOfPeaks (S.drop j) = H := ⟨_, rfl⟩
        rw [hx] at hrj hxl hst
        rw [hy] at k4 hyl hst
        rw [hH2] at hst hHl
        have HN : Hid (∀ W, Upd [] wo W → Calls Tryd.prog 20 #[.agg (x.map U8).toArray, .agg (y.map U8).toArray] W fun e w' => e = .returned (.agg (H2.map U8).toArray) ∧ Upd [] W w') := fun W hW => by
          rw [hst]; exact HND.out W x y hxl hyl (HV.out.trans hW)
        have hs1 := szrow hyl
        have hs2 := szrow hHl
        have ho2 : ((y.map U8).toArray).size = ((H2.map U8).toArray).size := by simp [hyl, hHl]
        have ha2 := oneAll H2
        have hsx := szlist hxl
        obtain ⟨lx, hlx⟩ : ∃ l, x.map U8 = l := ⟨_, rfl⟩
        obtain ⟨c1, hc1⟩ : ∃ c, (y.map U8).toArray = c := ⟨_, rfl⟩
        obtain ⟨c2, hc2⟩ : ∃ c, (H2.map U8).toArray = c := ⟨_, rfl⟩
        rw [hlx] at hrj hsx HN
        rw [hc1] at k4 hs1 ho2 HN
        rw [hc2] at hs2 ho2 ha2 HN
        have HQ4 : Hid (∀ w', Upd [] wo w' → ∃ t fr, w'.heap[b4]? = some (.cells c1 t fr)) := fun w' h => ⟨_, _, h.heap k4 (by simp)⟩
        have HE : Hid (∀ w', Upd [] wo w' → w'.rangeAt g (j * 33 + 1) lx) := fun w' h i v hi => h.cell (hrj i v hi) (by simp)
        have HCT : Hid (∀ w', Upd [] wo w' → w'.cell? ⟨bt, 0, none⟩ = some (.slice (some ⟨g, 0, none⟩) K cap)) := fun w' h => by
          have := (HV.out.trans h).heap HH0.out (by simp)
          rw [cell_of_row _ _ _ _ _ _ this]; rfl
        have HC2 := Lib.hid (show ((rootOfPeaks (S.drop j)).map U8).toArray = c2 by rw [hH2, hc2])
        have HK4 := Lib.hid k4
        clear hOw hrj hxl hyl hst hHl hx hy hH2 hlx hc1 hc2 k4
        go_wp2_with (fail)
        refine wp_region_quiet_tail 10 (Upd [] wo) (by kernel_rfl) (by kernel_rfl) (Upd.refl _ _).drew ?_
        simp only [List.take_succ_cons, List.take_zero, List.drop_succ_cons, List.drop_zero]
        repeat (first
          | (refine wpQuiet_valK rfl (quiet_of_yields (yields_cell (p := ⟨bt, 0, none⟩) rfl HCT.out Tryd.underlying67 rfl)) (fun K hK => ?_); go_simp; refine hK _ ?_; clear hK K)
          | (refine wpQuiet_valK rfl (quiet_load_row 27 _ rfl b4 rfl _ HQ4.out Tryd.underlying27 rfl hs1) (fun K hK => ?_); go_simp; refine hK _ ?_; clear hK K)
          | (refine wpQuiet_valK rfl (quiet_load_mid 27 _ rfl g (j * 33 + 1) rfl _ HE.out Tryd.underlying27 rfl hsx) (fun K hK => ?_); go_simp; refine hK _ ?_; clear hK K)
          | go_big_quiet_step ((intro hw2; first
              | rfl
              | ((with_reducible refine (HN.out _ hw2).mono ?_); exact fun e w' h => ⟨h.1, hw2.trans h.2⟩)
              )))
        refine wpQuiet_nil ?_
        intro w15 hU15
        have k15 := hU15.heap HK4.out (by simp)
        go_wp2_with (with_reducible refine arm_store (by with_unfolding_all exact rfl) (by with_unfolding_all exact rfl) k15 hs2 ho2 ha2 ?_)
        intro w16 k16 hX16 hz16
        have hT16 := (HU.out.trans (Upd.of0 (T := [b4]) hU15)).trans hX16
        have K16 := Lib.hid k16
        have HT16 := Lib.hid hT16
        clear k16 hX16 hz16 hT16 k15 hU15
        go_wp2_with (fail)
        go_roundw
        case rel => exact ⟨j, by omega, by go_num, by rw [HC2.out]; exact K16.out, HT16.out⟩
        case measure => first | (simp [intOf]; done) | (simp [intOf]; omega)
end
section
open Go Go.RowKit Go.Proofs
theorem gl256_lt {w : World} (h : Gl256 w) : 1 < w.heap.size := by
  have := World.block_lt_of_cell? w _ (h 0 (by decide))
  simpa using this
def zpeak : Array Value := #[Value.int .i64 0] ++ zrow8 32
theorem zpeak_size : zpeak.size = 33 := by simp [zpeak, zrow8_size]
theorem zero_peak (w : World) : (zeroValue 72).run Tryd.prog w = .ok (.agg zpeak) w := by kernel_rfl
theorem size_peaks : (Tryd.prog.info? 67).map (·.size) = some 1 := by kernel_rfl
theorem own_eq (A : Option Addr) (n m c : Nat) : (Value.slice A n c).ownBlock = (Value.slice A m c).ownBlock := by cases A <;> rfl
theorem elem_peaks : Tryd.prog.elem 67 = 72 := by kernel_rfl
theorem size_peakE : (Tryd.prog.info? (Tryd.prog.elem 67)).map (·.size) = some 33 := by kernel_rfl
theorem cut_peaks (g n c j : Nat) (h : j ≤ n) (h3 : n ≤ c) (W : World) : (Instr.sliceAt 67 (.slice (some ⟨g, 0, none⟩) n c) none (some (.int .i64 j)) none).run Tryd.prog W = .ok (.slice (some ⟨g, 0, none⟩) j c) W := by
  have := run_cut W 67 33 (by rw [elem_peaks]; exact Tryd.underlying67) size_peakE (some ⟨g, 0, none⟩) n c 0 j none (some (.int .i64 j)) (.inl ⟨rfl, rfl⟩) (.inr rfl) (by omega) h h3
  simpa [show (⟨g, 0, none⟩ : Addr).add 0 = ⟨g, 0, none⟩ from rfl] using this
def Appended (w : World) (bt : Nat) (pv : Value) (l : List H8) (x : H8) (e : Ending) (w' : World) : Prop := e = .returned (.bool true) ∧ ∃ pv', TreeAt w' bt pv' (l ++ [x]) ∧ (pv'.ownBlock = pv.ownBlock ∨ ∃ k, pv'.ownBlock = some k ∧ w.heap.size ≤ k) ∧ Upd (bt :: pv.ownBlock.toList) w w'
theorem peakC_all (t : List H8) : (peakC t).toArray.all (·.oneCell') = true := by
  rw [Array.all_eq_true]
  intro i hi
  exact peakC_one t _ (by simp)
set_option maxRecDepth 100000 in
theorem tappend_full (w : World) (bt : Nat) (pv : Value) (l : List H8) (cx : Array Value) (h : TreeAt w bt pv l) (hln : l.length = 65536) :
    Calls Tryd.prog 15 #[.pointer (some ⟨bt, 0, none⟩), .agg cx] w fun e w' => e = .returned (.bool false) ∧ Upd [] w w' := by
  obtain ⟨_, S, _, hh, _⟩ := h
  rw [hln] at hh
  clear hln
  go_enter Tryd.func15, Tryd.ntmps15
  go_wp2_with (with_reducible refine arm_box (by with_unfolding_all exact rfl) ?_)
  intro b3 w3 hb3 k3 hU3 hz3
  have hh3 := hU3.heap hh (by simp)
  have hc : w3.cell? ⟨bt, 1, none⟩ = some (.int .i64 65536) := by rw [cell_of_row _ _ _ _ _ _ hh3]; rfl
  go_wp2_with (fail)
  go_ret
  exact ⟨rfl, hU3⟩
set_option maxRecDepth 100000 in
set_option maxHeartbeats 12800000 in
theorem tappend_ (w : World) (bt : Nat) (pv : Value) (l : List H8) (x : H8) (h : TreeAt w bt pv l) (hx : x.length = 32) (hln : l.length < 65536) (hgb : 1 < bt) (hfb : 0 < bt) (hg : Gl256 w) (hf : GlFirst256 w) :
    Calls Tryd.prog 15 #[.pointer (some ⟨bt, 0, none⟩), .agg (x.map U8).toArray] w fun e w' => Appended w bt pv l x e w' := by
  obtain ⟨hll, S, hP, hh, hO⟩ := h
  have hKl := peaks_bound hP
  have hG0 : Grows (S.take S.length) [x] l x := by rw [List.take_of_length_le (Nat.le_refl _)]; exact hP.grows x
  obtain ⟨A, cap, e⟩ := hO.isSlice
  have hOt : OwnK w (bt + 1) pv (S.take S.length) := by rw [List.take_of_length_le (Nat.le_refl _)]; exact hO
  obtain ⟨K, hK⟩ : ∃ K, S.length = K := ⟨_, rfl⟩
  obtain ⟨N, hN⟩ : ∃ N, l.length = N := ⟨_, rfl⟩
  rw [hK] at e hKl hOt hG0
  rw [hN] at hKl hh hln
  rw [e] at hh hOt ⊢
  have HND : Hid (∀ W (x y : H8), x.length = 32 → y.length = 32 → Upd [bt] w W → Calls Tryd.prog 20 #[.agg (x.map U8).toArray, .agg (y.map U8).toArray] W fun e w' => e = .returned (.agg ((nodeH x y).map U8).toArray) ∧ Upd [] W w') := fun W x y hx hy hW => node_ W x y hx hy (hg.upd hW (by simp; omega)) (hf.upd hW (by have := hfb; simp; omega))
  have hR1 : rootOf [x] = x := rootOf_one x
  have hb1 := built_peak [x] x 1 rfl hR1.symm (by rw [hR1]; exact hx)
  have hpl : (peakC [x]).length = 33 := peakC_length (by rw [hR1]; exact hx)
  have hsx := szrow hx
  have hsP : (Tryd.prog.info? 72).map (·.size) = some (peakC [x]).toArray.size := by rw [size_peak]; simp [hpl]
  have hoP : zpeak.size = (peakC [x]).toArray.size := by rw [zpeak_size]; simp [hpl]
  have haP := peakC_all [x]
  have HX := Lib.hid hx
  have HLL := Lib.hid hll
  have HK := Lib.hid hK
  have HN := Lib.hid hN
  have HOT := Lib.hid hOt
  have HG0 := Lib.hid hG0
  have HLN : Hid (N < 65536) := hln
  have HKN : Hid (K ≤ N) := hKl
  have HOS := Lib.hid hO.1
  have n1 : decide ((N : Int) ≥ 65536) = false := by simp; omega
  have n2 : ¬ ((N : Int) ≥ 65536) := by omega
  have n3 : ¬ (65536 ≤ N) := by omega
  have n4 : (N : Int) ≤ 65536 := by omega
  have kB : (K : Int) ≤ 65536 := by omega
  obtain ⟨cx, hcx⟩ : ∃ c, (x.map U8).toArray = c := ⟨_, rfl⟩
  rw [hcx] at hsx hb1 ⊢
  obtain ⟨cP, hcP⟩ : ∃ c, (peakC [x]).toArray = c := ⟨_, rfl⟩
  rw [hcP] at hb1 hsP hoP haP
  have HCP := Lib.hid hcP
  have HH := Lib.hid hh
  have HBT : Hid (bt < w.heap.size) := lt_of_heap hh
  clear hO hOt hK hN hln hKl hll hx hG0 hg hf hP hR1 hcx hcP hpl e hgb hfb
  go_enter Tryd.func15, Tryd.ntmps15
  go_wp2_with (with_reducible refine arm_box (by with_unfolding_all exact rfl) ?_)
  intro b3 w3 hb3 k3 hU3 hz3
  change w3.heap[b3]? = some (.cells cx 27 (0, 0)) at k3
  have hh3 := hU3.heap hh (by simp)
  have hc : w3.cell? ⟨bt, 1, none⟩ = some (.int .i64 N) := by rw [cell_of_row _ _ _ _ _ _ hh3]; rfl
  go_wp2_with (first
    | (with_reducible refine arm_load (by with_unfolding_all exact rfl) k3 Tryd.underlying27 (by with_unfolding_all exact rfl) hsx ?_)
    | (with_reducible refine arm_build2 (by with_unfolding_all exact rfl) (by with_unfolding_all exact rfl) hb1 ?_)
    | (with_reducible refine arm_alloc (zero_peak _) ?_))
  intro b5 w4 hb5 k4 hU4 hz4
  change w4.heap[b5]? = some (.cells zpeak 72 (0, 0)) at k4
  go_wp2_with (with_reducible refine arm_store (by with_unfolding_all exact rfl) (by with_unfolding_all exact rfl) k4 hsP hoP haP ?_)
  intro w5 k5 hX5 hz5
  have hT5 := hU4.fresh hb5 hX5
  have hV5 := hU3.trans hT5
  have hh5 := hV5.heap hh (by simp)
  have hlb5 : w.heap.size ≤ b5 := by have := hU3.size; omega
  have hO5 := HOT.out.upd0 hV5
  have HV5 := Lib.hid hV5
  have HO5B : Hid (∀ b, (Value.slice A K cap).ownBlock = some b → b < b5) := fun b hb => by have := (HOT.out.lt b hb).2; omega
  have HO5 := Lib.hid hO5
  have HK5 : Hid (w5.heap[b5]? = some (.cells (peakC [x]).toArray 72 (0, 0))) := by
    show w5.heap[b5]? = _
    rw [HCP.out]; exact k5
  have HH5 := Lib.hid hh5
  have hc5 : w5.cell? ⟨bt, 0, none⟩ = some (.slice A K cap) := by rw [cell_of_row _ _ _ _ _ _ hh5]; rfl
  clear hb3 k3 hU3 hz3 hh3 hc hb5 k4 hU4 hz4 k5 hX5 hz5 hT5 hV5 hO5 hh5 hsx hb1 hsP hoP haP hh
  go_wp2_with (fail)
  clear hc5
  go_loopw [6] (fun sv wr => ∃ k : Nat, ∃ t : List H8, k ≤ K ∧ sv = .int .i64 k ∧ Grows (S.take k) t l x ∧ (rootOf t).length = 32 ∧ wr.heap[bt]? = some (.cells #[.slice A k cap, .int .i64 N] 69 (0, 0)) ∧ wr.heap[b5]? = some (.cells (peakC t).toArray 72 (0, 0)) ∧ OwnK wr (bt + 1) (.slice A k cap) (S.take k) ∧ Upd [bt, b5] w5 wr) (fun sv _ => (intOf sv).toNat)
  case atStart => exact ⟨K, [x], Nat.le_refl _, rfl, HG0.out, by rw [rootOf_one]; exact HX.out, HH5.out, HK5.out, HO5.out, Upd.refl _ _⟩
  case round =>
    obtain ⟨k, t, hk, rfl, hG, hRt, hhq, k5, hOw, hU⟩ := hrel
    have HG := Lib.hid hG
    have HU := Lib.hid hU
    have HOW := Lib.hid hOw
    have HHQ := Lib.hid hhq
    have HK5q := Lib.hid k5
    obtain ⟨wo, rfl⟩ : ∃ wo : World, wo = wr := ⟨_, rfl⟩
    have hV : Upd [bt] w wo := (Upd.of0 (T := [bt]) HV5.out).trans' hU (fun i hm hi => by simp at hm ⊢; omega)
    have HV := Lib.hid hV
    have hplt : (peakC t).length = 33 := peakC_length hRt
    have kq : (k : Int) ≤ 65536 := by omega
    have hOwX := hOw
    clear hG hU hV hOw hhq k5
    rcases k with _ | j
    · rw [show (((0 : Nat) : Int)) = 0 by rfl]
      clear hOwX
      go_wp2_with (fail)
      go_quiet (skip)
      rename Nat => nq
      obtain ⟨wq, hwq⟩ : ∃ W, wo.drewN nq = W := ⟨_, rfl⟩
      have hT : Upd [] wo wq := by rw [← hwq]; exact (Upd.refl _ _).drewN nq
      rw [hwq]
      have hhq := hT.heap HHQ.out (by simp)
      have k5q := hT.heap HK5q.out (by simp)
      have hOq := HOW.out.upd0 hT
      have hVq := HV.out.trans (Upd.of0 hT)
      have HPk : Hid (Peaks (S.take 0 ++ [t]) (l ++ [x])) := HG.out.done (fun s hs => by simp at hs)
      have HOL : Hid ((S.take 0).length ≤ 65536) := by show (S.take 0).length ≤ 65536; simp
      clear hT hwq
      have hsPt : (Tryd.prog.info? 72).map (·.size) = some (peakC t).toArray.size := by rw [size_peak]; simp [hplt]
      have hS9 : ∀ W, Upd (bt :: (Value.slice A K cap).ownBlock.toList) wq W → ∃ t' fr, W.heap[b5]? = some (.cells (peakC t).toArray t' fr) := fun W hW => ⟨_, _, hW.heap k5q (fun hm => by
        rcases List.mem_cons.1 hm with hm | hm
        · have := HBT.out; omega
        · have := HO5B.out b5 (by simpa using hm); omega)⟩
      have HS9 := Lib.hid hS9
      clear hS9
      go_upto_region 9 with (fail)
      refine wp_region_orders [0, 1, 2, 3, 5] (.step 4 (.step 6 (.step 7 (.step 8 (.step 9 (.step 10 .none .none) .none) .none) .none) .none) (.step 6 (.step 4 (.step 7 (.step 8 (.step 9 (.step 10 .none .none) .none) .none) .none) .none) .none)) (Upd (bt :: (Value.slice A K cap).ownBlock.toList) wq) (by kernel_rfl) (by kernel_rfl) ((Upd.refl _ _).drew) ?_
      refine takeO_cons _ (.pointer (some ⟨bt, 0, none⟩)) rfl (by kernel_rfl) (yields_move (by kernel_rfl)) ?_
      refine takeO_cons _ (.pointer (some ⟨bt, 0, none⟩)) rfl (by kernel_rfl) (yields_move (by kernel_rfl)) ?_
      refine takeO_cons _ (.pointer (some ⟨bt, 0, none⟩)) rfl (by kernel_rfl) (fun w _ => by kernel_rfl) ?_
      refine takeO_cons _ (.pointer (some ⟨bt, 0, none⟩)) rfl (by kernel_rfl) (fun w _ => by kernel_rfl) ?_
      refine takeO_cons _ (.agg (peakC t).toArray) rfl (by kernel_rfl) (yields_row (by kernel_rfl) HS9.out Tryd.underlying72 rfl hsPt) ?_
      refine takeO_nil (by simp [Ord.first]) ?_
      refine ordP_step _ (by simp only [List.getElem?_toArray, List.getElem?_cons_succ, List.getElem?_cons_zero]; rfl) ?_ ?_
      have hcq : wq.drew.cell? ⟨bt, 0, none⟩ = some (.slice A 0 cap) := by rw [cell_of_row wq.drew _ _ _ _ _ hhq]; rfl
      go_wp2_with (fail)
      clear hcq
      refine ord_more (by simp [Ord.first]) (Upd.refl _ _).drew ?_
      refine ordP_step _ (by simp only [List.getElem?_toArray, List.getElem?_cons_succ, List.getElem?_cons_zero]; rfl) ?_ ordP_none
      with_reducible refine bsK rfl hplt (by with_unfolding_all exact rfl) ?_
      intro g9 w6 hg9 k6 hU6
      go_wp2_with (fail)
      have hT6 := (Upd.refl (bt :: (Value.slice A K cap).ownBlock.toList) wq).drew.trans (Upd.of0 hU6)
      refine ord_more (by simp [Ord.first]) hT6 ?_
      have hW6 := (Upd.refl [] wq).drew.trans hU6
      have hO6 := hOq.upd0 hW6
      have hh6 := hW6.heap hhq (by simp)
      have hb6 : bt + 1 ≤ w6.heap.size := by have := hW6.size; have := hVq.size; have := HBT.out; omega
      refine ordP_step _ (by simp only [List.getElem?_toArray, List.getElem?_cons_succ, List.getElem?_cons_zero]; rfl) ?_ ordP_none
      with_reducible refine appendK (by with_unfolding_all exact rfl) (by with_unfolding_all exact rfl) hO6 k6 hRt (by have := HOL.out; omega) hb6 ?_
      intro v7 w7 hO7 hU7 hblk7
      rw [own_eq A 0 K cap] at hU7 hblk7
      obtain ⟨A7, cap7, e7⟩ := hO7.isSlice
      have hh7 := hU7.heap hh6 (fun hm => by have := (hO6.lt bt (by rw [own_eq A 0 K cap]; simpa using hm)).1; omega)
      have hT7 := hT6.trans' hU7 (fun i hm _ => List.mem_cons_of_mem _ hm)
      have hv7c : v7.cells = #[v7] := by rw [e7]; rfl
      have hv7o : v7.oneCell' = true := by rw [e7]; rfl
      clear e7
      go_wp2_with (fail)
      refine ord_more (by simp [Ord.first]) hT7 ?_
      refine ordP_step _ (by simp only [List.getElem?_toArray, List.getElem?_cons_succ, List.getElem?_cons_zero]; rfl) ?_ ordP_none
      go_wp2_with (fail)
      refine ord_more (by simp [Ord.first]) hT7 ?_
      refine ordP_step _ (by simp only [List.getElem?_toArray, List.getElem?_cons_succ, List.getElem?_cons_zero]; rfl) ?_ ordP_none
      go_wp2_with (fail)
      refine ord_more (by simp [Ord.first]) hT7 ?_
      refine ordP_step _ (by simp only [List.getElem?_toArray, List.getElem?_cons_succ, List.getElem?_cons_zero]; rfl) ?_ ordP_none
      with_reducible refine arm_store_at (by with_unfolding_all exact rfl) (by with_unfolding_all exact rfl) hh7 (by simp) hv7c size_peaks hv7o ?_
      intro w8 hh8 hX8 hz8
      change w8.heap[bt]? = some (.cells #[v7, .int .i64 N] 69 (0, 0)) at hh8
      have hT8 := hT7.trans' hX8 (fun i hm _ => by rw [List.mem_singleton.1 hm]; exact List.mem_cons_self)
      go_wp2_with (fail)
      refine ord_last hT8 ?_
      show Exit.then _ _ Exit.normal _ _
      have hO8 := hO7.upd hX8 (fun k hk hm => by have := (hO7.lt k hk).1; simp at hm; omega)
      have hc8 : w8.cell? ⟨bt, 1, none⟩ = some (.int .i64 N) := by rw [cell_of_row _ _ _ _ _ _ hh8]; rfl
      have hB8 : v7.ownBlock = (Value.slice A K cap).ownBlock ∨ ∃ j, v7.ownBlock = some j ∧ w.heap.size ≤ j := by
        rcases hblk7 with h | h
        · exact .inl h
        · exact .inr ⟨_, h, by have := hW6.size; have := hVq.size; omega⟩
      have hV8 : Upd (bt :: (Value.slice A K cap).ownBlock.toList) w w8 := (hVq.mono (fun i hm _ => by rw [List.mem_singleton.1 hm]; exact List.mem_cons_self)).trans hT8
      have HV8 := Lib.hid hV8
      have HB8 := Lib.hid hB8
      have HO8 := Lib.hid hO8
      have HH8 := Lib.hid hh8
      clear hV8 hB8 hO8 hblk7 hO7 hU7 hO6 hh6 hh7 hT7 hX8 hT8 hz8 k6 hU6 hT6 hW6 hv7c hv7o hg9
      clear hsPt hplt hRt hk kq hhq k5q
      go_upto_region 10 with (fail)
      clear n1 n2 n3
      go_wp2_with (with_reducible refine arm_store_at (by with_unfolding_all exact rfl) (by with_unfolding_all exact rfl) hh8 (by simp) (by with_unfolding_all exact rfl) size_int1 (by with_unfolding_all exact rfl) ?_)
      intro w9 hh9 hX9 hz9
      change w9.heap[bt]? = some (.cells #[v7, .int .i64 ((N : Int) + 1)] 69 (0, 0)) at hh9
      go_wp2_with (fail)
      go_ret
      refine ⟨rfl, v7, ⟨?_, _, HPk.out, ?_, ?_⟩, HB8.out, ?_⟩
      · intro y hy
        rcases List.mem_append.1 hy with hy | hy
        · exact HLL.out y hy
        · rw [List.mem_singleton.1 hy]; exact HX.out
      · rw [hh9, List.length_append, HN.out]
        simp
      · exact HO8.out.upd hX9 (fun k hk hm => by have := (HO8.out.lt k hk).1; simp at hm; omega)
      · exact HV8.out.trans' hX9 (fun i hm _ => by rw [List.mem_singleton.1 hm]; exact List.mem_cons_self)
      refine ordP_step _ (by simp only [List.getElem?_toArray, List.getElem?_cons_succ, List.getElem?_cons_zero]; rfl) ?_ ordP_none
      with_reducible refine bsK rfl hplt (by with_unfolding_all exact rfl) ?_
      intro g9 w6 hg9 k6 hU6
      go_wp2_with (fail)
      have hT6 := (Upd.refl (bt :: (Value.slice A K cap).ownBlock.toList) wq).drew.trans (Upd.of0 hU6)
      refine ord_more (by simp [Ord.first]) hT6 ?_
      have hW6 := (Upd.refl [] wq).drew.trans hU6
      have hh6' := hW6.heap hhq (by simp)
      refine ordP_step _ (by simp only [List.getElem?_toArray, List.getElem?_cons_succ, List.getElem?_cons_zero]; rfl) ?_ ordP_none
      have hcq : w6.cell? ⟨bt, 0, none⟩ = some (.slice A 0 cap) := by rw [cell_of_row w6 _ _ _ _ _ hh6']; rfl
      go_wp2_with (fail)
      clear hcq
      refine ord_more (by simp [Ord.first]) hT6 ?_
      clear hh6'
      have hO6 := hOq.upd0 hW6
      have hh6 := hW6.heap hhq (by simp)
      have hb6 : bt + 1 ≤ w6.heap.size := by have := hW6.size; have := hVq.size; have := HBT.out; omega
      refine ordP_step _ (by simp only [List.getElem?_toArray, List.getElem?_cons_succ, List.getElem?_cons_zero]; rfl) ?_ ordP_none
      with_reducible refine appendK (by with_unfolding_all exact rfl) (by with_unfolding_all exact rfl) hO6 k6 hRt (by have := HOL.out; omega) hb6 ?_
      intro v7 w7 hO7 hU7 hblk7
      rw [own_eq A 0 K cap] at hU7 hblk7
      obtain ⟨A7, cap7, e7⟩ := hO7.isSlice
      have hh7 := hU7.heap hh6 (fun hm => by have := (hO6.lt bt (by rw [own_eq A 0 K cap]; simpa using hm)).1; omega)
      have hT7 := hT6.trans' hU7 (fun i hm _ => List.mem_cons_of_mem _ hm)
      have hv7c : v7.cells = #[v7] := by rw [e7]; rfl
      have hv7o : v7.oneCell' = true := by rw [e7]; rfl
      clear e7
      go_wp2_with (fail)
      refine ord_more (by simp [Ord.first]) hT7 ?_
      refine ordP_step _ (by simp only [List.getElem?_toArray, List.getElem?_cons_succ, List.getElem?_cons_zero]; rfl) ?_ ordP_none
      go_wp2_with (fail)
      refine ord_more (by simp [Ord.first]) hT7 ?_
      refine ordP_step _ (by simp only [List.getElem?_toArray, List.getElem?_cons_succ, List.getElem?_cons_zero]; rfl) ?_ ordP_none
      go_wp2_with (fail)
      refine ord_more (by simp [Ord.first]) hT7 ?_
      refine ordP_step _ (by simp only [List.getElem?_toArray, List.getElem?_cons_succ, List.getElem?_cons_zero]; rfl) ?_ ordP_none
      with_reducible refine arm_store_at (by with_unfolding_all exact rfl) (by with_unfolding_all exact rfl) hh7 (by simp) hv7c size_peaks hv7o ?_
      intro w8 hh8 hX8 hz8
      change w8.heap[bt]? = some (.cells #[v7, .int .i64 N] 69 (0, 0)) at hh8
      have hT8 := hT7.trans' hX8 (fun i hm _ => by rw [List.mem_singleton.1 hm]; exact List.mem_cons_self)
      go_wp2_with (fail)
      refine ord_last hT8 ?_
      show Exit.then _ _ Exit.normal _ _
      have hO8 := hO7.upd hX8 (fun k hk hm => by have := (hO7.lt k hk).1; simp at hm; omega)
      have hc8 : w8.cell? ⟨bt, 1, none⟩ = some (.int .i64 N) := by rw [cell_of_row _ _ _ _ _ _ hh8]; rfl
      have hB8 : v7.ownBlock = (Value.slice A K cap).ownBlock ∨ ∃ j, v7.ownBlock = some j ∧ w.heap.size ≤ j := by
        rcases hblk7 with h | h
        · exact .inl h
        · exact .inr ⟨_, h, by have := hW6.size; have := hVq.size; omega⟩
      have hV8 : Upd (bt :: (Value.slice A K cap).ownBlock.toList) w w8 := (hVq.mono (fun i hm _ => by rw [List.mem_singleton.1 hm]; exact List.mem_cons_self)).trans hT8
      have HV8 := Lib.hid hV8
      have HB8 := Lib.hid hB8
      have HO8 := Lib.hid hO8
      have HH8 := Lib.hid hh8
      clear hV8 hB8 hO8 hblk7 hO7 hU7 hO6 hh6 hh7 hT7 hX8 hT8 hz8 k6 hU6 hT6 hW6 hv7c hv7o hg9
      clear hsPt hplt hRt hk kq hhq k5q
      go_upto_region 10 with (fail)
      clear n1 n2 n3
      go_wp2_with (with_reducible refine arm_store_at (by with_unfolding_all exact rfl) (by with_unfolding_all exact rfl) hh8 (by simp) (by with_unfolding_all exact rfl) size_int1 (by with_unfolding_all exact rfl) ?_)
      intro w9 hh9 hX9 hz9
      change w9.heap[bt]? = some (.cells #[v7, .int .i64 ((N : Int) + 1)] 69 (0, 0)) at hh9
      go_wp2_with (fail)
      go_ret
      refine ⟨rfl, v7, ⟨?_, _, HPk.out, ?_, ?_⟩, HB8.out, ?_⟩
      · intro y hy
        rcases List.mem_append.1 hy with hy | hy
        · exact HLL.out y hy
        · rw [List.mem_singleton.1 hy]; exact HX.out
      · rw [hh9, List.length_append, HN.out]
        simp
      · exact HO8.out.upd hX9 (fun k hk hm => by have := (HO8.out.lt k hk).1; simp at hm; omega)
      · exact HV8.out.trans' hX9 (fun i hm _ => by rw [List.mem_singleton.1 hm]; exact List.mem_cons_self)
    · have hkS : (S.take (j + 1)).length = j + 1 := by rw [List.length_take, HK.out]; omega
      obtain ⟨g, cap', eA, hgb1, hgl1, hkc, _⟩ := hOwX.at (by rw [hkS]; omega)
      injection eA with eA eA2 eA3
      subst eA
      rw [← eA3] at hkc
      have hjS : j < S.length := by rw [HK.out]; omega
      have hjT : j < (S.take (j + 1)).length := by omega
      have htk : S.take (j + 1) = S.take j ++ [S[j]] := List.take_succ_eq_append_getElem hjS
      have hel := hOwX.elem j hjT
      rw [List.getElem_take] at hel
      have hRs := HOS.out _ (List.getElem_mem hjS)
      have hgx := HG.out
      rw [htk] at hgx
      obtain ⟨s, hs⟩ : ∃ s, S[j] = s := ⟨_, rfl⟩
      rw [hs] at hel hRs hgx htk
      obtain ⟨k, hkk⟩ : ∃ k, j + 1 = k := ⟨_, rfl⟩
      have hcap : k ≤ cap := by rw [← hkk]; rw [hkS] at hkc; exact hkc
      rw [hkk] at hk HG HHQ HOW htk kq hkS ⊢
      have hk1 : (k : Int) - 1 = (j : Int) := by omega
      have hkp : (k : Int) > 0 := by omega
      have hkd : decide ((k : Int) > 0) = true := by simp; omega
      have hkn : decide (0 < k) = true := by simp; omega
      have hk0 : 0 < k := by omega
      have hkj : j < k := by omega
      have hkj' : (j : Int) < (k : Int) := by omega
      have hTL : t.length ≤ 65536 := by
        have h1 := congrArg List.length HG.out.all
        have h2 := HLN.out
        have h3 := HN.out
        simp only [List.length_append, List.length_singleton, h3] at h1
        omega
      obtain ⟨a, ha⟩ : ∃ a, s.length = a := ⟨_, rfl⟩
      obtain ⟨c, hc⟩ : ∃ a, t.length = a := ⟨_, rfl⟩
      rw [ha] at hel
      rw [hc] at hTL
      have hcT : wo.cell? ⟨bt, 0, none⟩ = some (.slice (some ⟨g, 0, none⟩) k cap) := by rw [cell_of_row wo _ _ _ _ _ HHQ.out]; rfl
      have hcP : wo.cell? ⟨b5, 0, none⟩ = some (.int .i64 c) := by rw [cell_of_row wo _ _ _ _ _ HK5q.out, ← hc]; rfl
      have hcS := hel.1
      have HRG := Lib.hid hel.2
      have HGX := Lib.hid hgx
      have HTK := Lib.hid htk
      have HA := Lib.hid ha
      have HC := Lib.hid hc
      have HRS := Lib.hid hRs
      have HRT := Lib.hid hRt
      have HCAP := Lib.hid hcap
      clear hOwX hel hgx htk ha hc hs eA2 eA3 hgb1 hgl1 hkc hjT hRs hkS hkk hcap
      by_cases hac : a = c
      · subst hac
        have hm := HGX.out.merge (by rw [HA.out, HC.out])
        have hb7 := built_peak (s ++ t) (nodeH (rootOf s) (rootOf t)) (2 * (a : Int)) (by rw [List.length_append, HA.out, HC.out]; omega) hm.2.symm (by rw [hm.2]; exact nodeH_length _ _)
        have hRst : (rootOf (s ++ t)).length = 32 := by rw [hm.2]; exact nodeH_length _ _
        have hpl2 : (peakC (s ++ t)).length = 33 := peakC_length hRst
        have hNR : nodeH (rootOf s) (rootOf t) = rootOf (s ++ t) := hm.2.symm
        have HM1 := Lib.hid hm.1
        have HRST := Lib.hid hRst
        have a65 : (a : Int) ≤ 65536 := by omega
        go_wp2_with (fail)
        go_quiet (skip)
        rename Nat => nq
        obtain ⟨wq, hwq⟩ : ∃ W, wo.drewN nq = W := ⟨_, rfl⟩
        have hT : Upd [] wo wq := by rw [← hwq]; exact (Upd.refl _ _).drewN nq
        rw [hwq]
        have hhq := hT.heap HHQ.out (by simp)
        have k5q := hT.heap HK5q.out (by simp)
        have hOq := HOW.out.upd0 hT
        have hVq := HV.out.trans (Upd.of0 hT)
        have hUq : Upd [bt, b5] w5 wq := HU.out.trans (Upd.of0 hT)
        have hrq : wq.rangeAt g (j * 33 + 1) ((rootOf s).map U8) := fun i v hi => hT.cell (HRG.out i v hi) (by simp)
        have hrp := range_of_row k5q 1 ((rootOf t).map U8) ⟨[.int .i64 t.length], [], by simp [peakC], rfl⟩
        have HN7 : Hid (∀ W, Upd [] wq W → Calls Tryd.prog 20 #[.agg ((rootOf s).map U8).toArray, .agg ((rootOf t).map U8).toArray] W fun e w' => e = .returned (.agg ((nodeH (rootOf s) (rootOf t)).map U8).toArray) ∧ Upd [] W w') := fun W hW => HND.out W _ _ HRS.out HRT.out (hVq.trans (Upd.of0 hW))
        have hsl1 := szlist HRS.out
        have hsl2 := szlist HRT.out
        have HCT : Hid (∀ W, Upd [] wq W → W.cell? ⟨bt, 0, none⟩ = some (.slice (some ⟨g, 0, none⟩) k cap)) := fun W hW => by rw [cell_of_row W _ _ _ _ _ (hW.heap hhq (by simp))]; rfl
        have HCQ : Hid (∀ W, Upd [] wq W → W.cell? ⟨b5, 0, none⟩ = some (.int .i64 a)) := fun W hW => by rw [cell_of_row W _ _ _ _ _ (hW.heap k5q (by simp)), ← HC.out]; rfl
        have hb7' := hb7
        rw [hNR] at HN7 hb7'
        obtain ⟨cN, hcN⟩ : ∃ c, ((rootOf (s ++ t)).map U8).toArray = c := ⟨_, rfl⟩
        obtain ⟨l1, hl1⟩ : ∃ c, (rootOf s).map U8 = c := ⟨_, rfl⟩
        obtain ⟨l2, hl2⟩ : ∃ c, (rootOf t).map U8 = c := ⟨_, rfl⟩
        rw [hcN] at HN7 hb7'
        rw [hl1] at HN7 hrq hsl1
        rw [hl2] at HN7 hrp hsl2
        have HR1 : Hid (∀ W, Upd [] wq W → W.rangeAt g (j * 33 + 1) l1) := fun W hW i v hi => hW.cell (hrq i v hi) (by simp)
        have HR2 : Hid (∀ W, Upd [] wq W → W.rangeAt b5 1 l2) := fun W hW i v hi => hW.cell (hrp i v hi) (by simp)
        have hsP2 : (Tryd.prog.info? 72).map (·.size) = some (peakC (s ++ t)).toArray.size := by rw [size_peak]; simp [hpl2]
        have hoP2 : (peakC t).toArray.size = (peakC (s ++ t)).toArray.size := by simp [hplt, hpl2]
        have haP2 := peakC_all (s ++ t)
        obtain ⟨cQ, hcQ⟩ : ∃ c, (peakC (s ++ t)).toArray = c := ⟨_, rfl⟩
        rw [hcQ] at hsP2 hoP2 haP2 hb7'
        have HCQ2 := Lib.hid hcQ
        have HB7 := Lib.hid hb7'
        have HHQ2 := Lib.hid hhq
        have HK5q2 := Lib.hid k5q
        have HOq := Lib.hid hOq
        have HVq := Lib.hid hVq
        have HUq := Lib.hid hUq
        clear hm hb7 hb7' hRst hNR hT hwq hrq hrp hcN hl1 hl2 hcQ hcT hcP hcS hhq k5q hOq hVq hUq hpl2 n1 n2 n3
        go_upto_region 7 with (fail)
        refine wp_region_quiet_tail 16 (Upd [] wq) (by kernel_rfl) (by kernel_rfl) (Upd.refl _ _).drew ?_
        simp only [List.take_succ_cons, List.take_zero, List.drop_succ_cons, List.drop_zero]
        repeat (first
          | (refine wpQuiet_valK rfl (quiet_of_yields (yields_cell (p := ⟨bt, 0, none⟩) rfl HCT.out Tryd.underlying67 rfl)) (fun K hK => ?_); go_simp; refine hK _ ?_; clear hK K)
          | (refine wpQuiet_valK rfl (quiet_of_yields (yields_cell (p := ⟨b5, 0, none⟩) rfl HCQ.out Tryd.underlying3 rfl)) (fun K hK => ?_); go_simp; refine hK _ ?_; clear hK K)
          | (refine wpQuiet_valK rfl (quiet_load_mid 27 _ rfl g (j * 33 + 1) rfl _ HR1.out Tryd.underlying27 rfl hsl1) (fun K hK => ?_); go_simp; refine hK _ ?_; clear hK K)
          | (refine wpQuiet_valK rfl (quiet_load_mid 27 _ rfl b5 1 rfl _ HR2.out Tryd.underlying27 rfl hsl2) (fun K hK => ?_); go_simp; refine hK _ ?_; clear hK K)
          | (refine wpQuiet_valK rfl (quiet_build2 72 (.tmp 39) (.tmp 51) rfl (v0 := .int .i64 (2 * (a : Int))) (v1 := .agg cN) rfl rfl HB7.out) (fun K hK => ?_); go_simp; refine hK _ ?_; clear hK K)
          | go_big_quiet_step ((intro hw2; first
              | rfl
              | ((with_reducible refine (HN7.out _ hw2).mono ?_); exact fun e w' h => ⟨h.1, hw2.trans h.2⟩)
              )))
        refine wpQuiet_nil ?_
        intro w15 hU15
        have k15 := hU15.heap HK5q2.out (by simp)
        have hh15 := hU15.heap HHQ2.out (by simp)
        go_wp2_with (with_reducible refine arm_store (by with_unfolding_all exact rfl) (by with_unfolding_all exact rfl) k15 hsP2 hoP2 haP2 ?_)
        intro w16 k16 hX16 hz16
        have hbt5 : bt ≠ b5 := by have := HBT.out; omega
        have hh16 := hX16.heap hh15 (by simpa using hbt5)
        have hO16 := (HOq.out.upd0 hU15).upd hX16 (fun b hb hm => by have := HO5B.out b (by rw [own_eq (some ⟨g, 0, none⟩) K k cap]; exact hb); simp at hm; omega)
        have hT16 : Upd [bt, b5] w5 w16 := (HUq.out.trans (Upd.of0 hU15)).trans' hX16 (fun i hm _ => by simp at hm ⊢; exact .inr hm)
        have hc16 : w16.cell? ⟨bt, 0, none⟩ = some (.slice (some ⟨g, 0, none⟩) k cap) := by rw [cell_of_row w16 _ _ _ _ _ hh16]; rfl
        have hcut := cut_peaks g k cap j (by omega) HCAP.out
        have HCUT := Lib.hid hcut
        have HO16 := Lib.hid hO16
        have HT16 := Lib.hid hT16
        have HK16 : Hid (w16.heap[b5]? = some (.cells (peakC (s ++ t)).toArray 72 (0, 0))) := by
          show w16.heap[b5]? = _
          rw [HCQ2.out]; exact k16
        clear k15 hh15 hU15 hX16 hz16 hO16 hT16 k16 hcut
        go_wp2_with (first
          | (with_reducible refine arm_slice (by with_unfolding_all exact rfl) (by with_unfolding_all exact rfl) (by with_unfolding_all exact rfl) (by with_unfolding_all exact rfl) HCUT.out ?_)
          | (with_reducible refine arm_store_at (by with_unfolding_all exact rfl) (by with_unfolding_all exact rfl) hh16 (by simp) (by with_unfolding_all exact rfl) size_peaks (by with_unfolding_all exact rfl) ?_))
        intro w17 hh17 hX17 hz17
        change w17.heap[bt]? = some (.cells #[.slice (some ⟨g, 0, none⟩) j cap, .int .i64 N] 69 (0, 0)) at hh17
        have hO17 := (HO16.out.cut j (by rw [List.length_take, HK.out]; omega)).upd hX17 (fun b hb hm => by have h1 := (HO16.out.lt b (by rw [own_eq (some ⟨g, 0, none⟩) k j cap]; exact hb)).1; simp at hm; omega)
        have e17 : (S.take k).take j = S.take j := by rw [List.take_take, Nat.min_eq_left (by omega)]
        rw [e17] at hO17
        have hK17 := hX17.heap HK16.out (by simpa using hbt5.symm)
        have hT17 : Upd [bt, b5] w5 w17 := HT16.out.trans' hX17 (fun i hm _ => by simp at hm ⊢; exact .inl hm)
        have HO17 := Lib.hid hO17
        have HK17 := Lib.hid hK17
        have HT17 := Lib.hid hT17
        have HH17 := Lib.hid hh17
        clear hO17 hK17 hT17 hh17 hX17 hz17 hh16 hc16 e17
        go_wp2_with (fail)
        go_roundw
        case rel => exact ⟨j, s ++ t, by omega, by go_num, HM1.out, HRST.out, HH17.out, HK17.out, HO17.out, HT17.out⟩
        case measure => first | (simp [intOf]; done) | (simp [intOf]; omega)
      · have q1 : ((a : Int) == (c : Int)) = false := by simp; omega
        have q2 : (a == c) = false := by simpa using hac
        have q3 : decide ((a : Int) = (c : Int)) = false := by simp; omega
        have q4 : decide (a = c) = false := by simpa using hac
        go_wp2_with (fail)
        go_quiet (skip)
        rename Nat => nq
        obtain ⟨wq, hwq⟩ : ∃ W, wo.drewN nq = W := ⟨_, rfl⟩
        have hT : Upd [] wo wq := by rw [← hwq]; exact (Upd.refl _ _).drewN nq
        rw [hwq]
        have hhq := hT.heap HHQ.out (by simp)
        have k5q := hT.heap HK5q.out (by simp)
        have hOq := HOW.out.upd0 hT
        have hVq := HV.out.trans (Upd.of0 hT)
        have HPk : Hid (Peaks (S.take k ++ [t]) (l ++ [x])) := HG.out.done (fun s' hs' => by
          rw [HTK.out, List.getLast?_concat] at hs'
          injection hs' with hs'
          rw [← hs', HA.out, HC.out]; exact hac)
        have HOL : Hid ((S.take k).length ≤ 65536) := by show (S.take k).length ≤ 65536; rw [List.length_take]; omega
        clear hT hwq q1 q2 q3 q4 hcT hcP hcS hac
        have hsPt : (Tryd.prog.info? 72).map (·.size) = some (peakC t).toArray.size := by rw [size_peak]; simp [hplt]
        have hS9 : ∀ W, Upd (bt :: (Value.slice (some ⟨g, 0, none⟩) K cap).ownBlock.toList) wq W → ∃ t' fr, W.heap[b5]? = some (.cells (peakC t).toArray t' fr) := fun W hW => ⟨_, _, hW.heap k5q (fun hm => by
          rcases List.mem_cons.1 hm with hm | hm
          · have := HBT.out; omega
          · have := HO5B.out b5 (by simpa using hm); omega)⟩
        have HS9 := Lib.hid hS9
        clear hS9
        go_upto_region 9 with (fail)
        refine wp_region_orders [0, 1, 2, 3, 5] (.step 4 (.step 6 (.step 7 (.step 8 (.step 9 (.step 10 .none .none) .none) .none) .none) .none) (.step 6 (.step 4 (.step 7 (.step 8 (.step 9 (.step 10 .none .none) .none) .none) .none) .none) .none)) (Upd (bt :: (Value.slice (some ⟨g, 0, none⟩) K cap).ownBlock.toList) wq) (by kernel_rfl) (by kernel_rfl) ((Upd.refl _ _).drew) ?_
        refine takeO_cons _ (.pointer (some ⟨bt, 0, none⟩)) rfl (by kernel_rfl) (yields_move (by kernel_rfl)) ?_
        refine takeO_cons _ (.pointer (some ⟨bt, 0, none⟩)) rfl (by kernel_rfl) (yields_move (by kernel_rfl)) ?_
        refine takeO_cons _ (.pointer (some ⟨bt, 0, none⟩)) rfl (by kernel_rfl) (fun w _ => by kernel_rfl) ?_
        refine takeO_cons _ (.pointer (some ⟨bt, 0, none⟩)) rfl (by kernel_rfl) (fun w _ => by kernel_rfl) ?_
        refine takeO_cons _ (.agg (peakC t).toArray) rfl (by kernel_rfl) (yields_row (by kernel_rfl) HS9.out Tryd.underlying72 rfl hsPt) ?_
        refine takeO_nil (by simp [Ord.first]) ?_
        refine ordP_step _ (by simp only [List.getElem?_toArray, List.getElem?_cons_succ, List.getElem?_cons_zero]; rfl) ?_ ?_
        have hcq : wq.drew.cell? ⟨bt, 0, none⟩ = some (.slice (some ⟨g, 0, none⟩) k cap) := by rw [cell_of_row wq.drew _ _ _ _ _ hhq]; rfl
        go_wp2_with (fail)
        clear hcq
        refine ord_more (by simp [Ord.first]) (Upd.refl _ _).drew ?_
        refine ordP_step _ (by simp only [List.getElem?_toArray, List.getElem?_cons_succ, List.getElem?_cons_zero]; rfl) ?_ ordP_none
        with_reducible refine bsK rfl hplt (by with_unfolding_all exact rfl) ?_
        intro g9 w6 hg9 k6 hU6
        go_wp2_with (fail)
        have hT6 := (Upd.refl (bt :: (Value.slice (some ⟨g, 0, none⟩) K cap).ownBlock.toList) wq).drew.trans (Upd.of0 hU6)
        refine ord_more (by simp [Ord.first]) hT6 ?_
        have hW6 := (Upd.refl [] wq).drew.trans hU6
        have hO6 := hOq.upd0 hW6
        have hh6 := hW6.heap hhq (by simp)
        have hb6 : bt + 1 ≤ w6.heap.size := by have := hW6.size; have := hVq.size; have := HBT.out; omega
        refine ordP_step _ (by simp only [List.getElem?_toArray, List.getElem?_cons_succ, List.getElem?_cons_zero]; rfl) ?_ ordP_none
        with_reducible refine appendK (by with_unfolding_all exact rfl) (by with_unfolding_all exact rfl) hO6 k6 hRt (by have := HOL.out; omega) hb6 ?_
        intro v7 w7 hO7 hU7 hblk7
        rw [own_eq (some ⟨g, 0, none⟩) k K cap] at hU7 hblk7
        obtain ⟨A7, cap7, e7⟩ := hO7.isSlice
        have hh7 := hU7.heap hh6 (fun hm => by have := (hO6.lt bt (by rw [own_eq (some ⟨g, 0, none⟩) k K cap]; simpa using hm)).1; omega)
        have hT7 := hT6.trans' hU7 (fun i hm _ => List.mem_cons_of_mem _ hm)
        have hv7c : v7.cells = #[v7] := by rw [e7]; rfl
        have hv7o : v7.oneCell' = true := by rw [e7]; rfl
        clear e7
        go_wp2_with (fail)
        refine ord_more (by simp [Ord.first]) hT7 ?_
        refine ordP_step _ (by simp only [List.getElem?_toArray, List.getElem?_cons_succ, List.getElem?_cons_zero]; rfl) ?_ ordP_none
        go_wp2_with (fail)
        refine ord_more (by simp [Ord.first]) hT7 ?_
        refine ordP_step _ (by simp only [List.getElem?_toArray, List.getElem?_cons_succ, List.getElem?_cons_zero]; rfl) ?_ ordP_none
        go_wp2_with (fail)
        refine ord_more (by simp [Ord.first]) hT7 ?_
        refine ordP_step _ (by simp only [List.getElem?_toArray, List.getElem?_cons_succ, List.getElem?_cons_zero]; rfl) ?_ ordP_none
        with_reducible refine arm_store_at (by with_unfolding_all exact rfl) (by with_unfolding_all exact rfl) hh7 (by simp) hv7c size_peaks hv7o ?_
        intro w8 hh8 hX8 hz8
        change w8.heap[bt]? = some (.cells #[v7, .int .i64 N] 69 (0, 0)) at hh8
        have hT8 := hT7.trans' hX8 (fun i hm _ => by rw [List.mem_singleton.1 hm]; exact List.mem_cons_self)
        go_wp2_with (fail)
        refine ord_last hT8 ?_
        show Exit.then _ _ Exit.normal _ _
        have hO8 := hO7.upd hX8 (fun k hk hm => by have := (hO7.lt k hk).1; simp at hm; omega)
        have hc8 : w8.cell? ⟨bt, 1, none⟩ = some (.int .i64 N) := by rw [cell_of_row _ _ _ _ _ _ hh8]; rfl
        have hB8 : v7.ownBlock = (Value.slice (some ⟨g, 0, none⟩) K cap).ownBlock ∨ ∃ j, v7.ownBlock = some j ∧ w.heap.size ≤ j := by
          rcases hblk7 with h | h
          · exact .inl h
          · exact .inr ⟨_, h, by have := hW6.size; have := hVq.size; omega⟩
        have hV8 : Upd (bt :: (Value.slice (some ⟨g, 0, none⟩) K cap).ownBlock.toList) w w8 := (hVq.mono (fun i hm _ => by rw [List.mem_singleton.1 hm]; exact List.mem_cons_self)).trans hT8
        have HV8 := Lib.hid hV8
        have HB8 := Lib.hid hB8
        have HO8 := Lib.hid hO8
        have HH8 := Lib.hid hh8
        clear hV8 hB8 hO8 hblk7 hO7 hU7 hO6 hh6 hh7 hT7 hX8 hT8 hz8 k6 hU6 hT6 hW6 hv7c hv7o hg9
        clear hsPt hplt hRt hk kq hhq k5q
        go_upto_region 10 with (fail)
        clear n1 n2 n3
        go_wp2_with (with_reducible refine arm_store_at (by with_unfolding_all exact rfl) (by with_unfolding_all exact rfl) hh8 (by simp) (by with_unfolding_all exact rfl) size_int1 (by with_unfolding_all exact rfl) ?_)
        intro w9 hh9 hX9 hz9
        change w9.heap[bt]? = some (.cells #[v7, .int .i64 ((N : Int) + 1)] 69 (0, 0)) at hh9
        go_wp2_with (fail)
        go_ret
        refine ⟨rfl, v7, ⟨?_, _, HPk.out, ?_, ?_⟩, HB8.out, ?_⟩
        · intro y hy
          rcases List.mem_append.1 hy with hy | hy
          · exact HLL.out y hy
          · rw [List.mem_singleton.1 hy]; exact HX.out
        · rw [hh9, List.length_append, HN.out]
          simp
        · exact HO8.out.upd hX9 (fun k hk hm => by have := (HO8.out.lt k hk).1; simp at hm; omega)
        · exact HV8.out.trans' hX9 (fun i hm _ => by rw [List.mem_singleton.1 hm]; exact List.mem_cons_self)
        refine ordP_step _ (by simp only [List.getElem?_toArray, List.getElem?_cons_succ, List.getElem?_cons_zero]; rfl) ?_ ordP_none
        with_reducible refine bsK rfl hplt (by with_unfolding_all exact rfl) ?_
        intro g9 w6 hg9 k6 hU6
        go_wp2_with (fail)
        have hT6 := (Upd.refl (bt :: (Value.slice (some ⟨g, 0, none⟩) K cap).ownBlock.toList) wq).drew.trans (Upd.of0 hU6)
        refine ord_more (by simp [Ord.first]) hT6 ?_
        have hW6 := (Upd.refl [] wq).drew.trans hU6
        have hh6' := hW6.heap hhq (by simp)
        refine ordP_step _ (by simp only [List.getElem?_toArray, List.getElem?_cons_succ, List.getElem?_cons_zero]; rfl) ?_ ordP_none
        have hcq : w6.cell? ⟨bt, 0, none⟩ = some (.slice (some ⟨g, 0, none⟩) k cap) := by rw [cell_of_row w6 _ _ _ _ _ hh6']; rfl
        go_wp2_with (fail)
        clear hcq
        refine ord_more (by simp [Ord.first]) hT6 ?_
        clear hh6'
        have hO6 := hOq.upd0 hW6
        have hh6 := hW6.heap hhq (by simp)
        have hb6 : bt + 1 ≤ w6.heap.size := by have := hW6.size; have := hVq.size; have := HBT.out; omega
        refine ordP_step _ (by simp only [List.getElem?_toArray, List.getElem?_cons_succ, List.getElem?_cons_zero]; rfl) ?_ ordP_none
        with_reducible refine appendK (by with_unfolding_all exact rfl) (by with_unfolding_all exact rfl) hO6 k6 hRt (by have := HOL.out; omega) hb6 ?_
        intro v7 w7 hO7 hU7 hblk7
        rw [own_eq (some ⟨g, 0, none⟩) k K cap] at hU7 hblk7
        obtain ⟨A7, cap7, e7⟩ := hO7.isSlice
        have hh7 := hU7.heap hh6 (fun hm => by have := (hO6.lt bt (by rw [own_eq (some ⟨g, 0, none⟩) k K cap]; simpa using hm)).1; omega)
        have hT7 := hT6.trans' hU7 (fun i hm _ => List.mem_cons_of_mem _ hm)
        have hv7c : v7.cells = #[v7] := by rw [e7]; rfl
        have hv7o : v7.oneCell' = true := by rw [e7]; rfl
        clear e7
        go_wp2_with (fail)
        refine ord_more (by simp [Ord.first]) hT7 ?_
        refine ordP_step _ (by simp only [List.getElem?_toArray, List.getElem?_cons_succ, List.getElem?_cons_zero]; rfl) ?_ ordP_none
        go_wp2_with (fail)
        refine ord_more (by simp [Ord.first]) hT7 ?_
        refine ordP_step _ (by simp only [List.getElem?_toArray, List.getElem?_cons_succ, List.getElem?_cons_zero]; rfl) ?_ ordP_none
        go_wp2_with (fail)
        refine ord_more (by simp [Ord.first]) hT7 ?_
        refine ordP_step _ (by simp only [List.getElem?_toArray, List.getElem?_cons_succ, List.getElem?_cons_zero]; rfl) ?_ ordP_none
        with_reducible refine arm_store_at (by with_unfolding_all exact rfl) (by with_unfolding_all exact rfl) hh7 (by simp) hv7c size_peaks hv7o ?_
        intro w8 hh8 hX8 hz8
        change w8.heap[bt]? = some (.cells #[v7, .int .i64 N] 69 (0, 0)) at hh8
        have hT8 := hT7.trans' hX8 (fun i hm _ => by rw [List.mem_singleton.1 hm]; exact List.mem_cons_self)
        go_wp2_with (fail)
        refine ord_last hT8 ?_
        show Exit.then _ _ Exit.normal _ _
        have hO8 := hO7.upd hX8 (fun k hk hm => by have := (hO7.lt k hk).1; simp at hm; omega)
        have hc8 : w8.cell? ⟨bt, 1, none⟩ = some (.int .i64 N) := by rw [cell_of_row _ _ _ _ _ _ hh8]; rfl
        have hB8 : v7.ownBlock = (Value.slice (some ⟨g, 0, none⟩) K cap).ownBlock ∨ ∃ j, v7.ownBlock = some j ∧ w.heap.size ≤ j := by
          rcases hblk7 with h | h
          · exact .inl h
          · exact .inr ⟨_, h, by have := hW6.size; have := hVq.size; omega⟩
        have hV8 : Upd (bt :: (Value.slice (some ⟨g, 0, none⟩) K cap).ownBlock.toList) w w8 := (hVq.mono (fun i hm _ => by rw [List.mem_singleton.1 hm]; exact List.mem_cons_self)).trans hT8
        have HV8 := Lib.hid hV8
        have HB8 := Lib.hid hB8
        have HO8 := Lib.hid hO8
        have HH8 := Lib.hid hh8
        clear hV8 hB8 hO8 hblk7 hO7 hU7 hO6 hh6 hh7 hT7 hX8 hT8 hz8 k6 hU6 hT6 hW6 hv7c hv7o hg9
        clear hsPt hplt hRt hk kq hhq k5q
        go_upto_region 10 with (fail)
        clear n1 n2 n3
        go_wp2_with (with_reducible refine arm_store_at (by with_unfolding_all exact rfl) (by with_unfolding_all exact rfl) hh8 (by simp) (by with_unfolding_all exact rfl) size_int1 (by with_unfolding_all exact rfl) ?_)
        intro w9 hh9 hX9 hz9
        change w9.heap[bt]? = some (.cells #[v7, .int .i64 ((N : Int) + 1)] 69 (0, 0)) at hh9
        go_wp2_with (fail)
        go_ret
        refine ⟨rfl, v7, ⟨?_, _, HPk.out, ?_, ?_⟩, HB8.out, ?_⟩
        · intro y hy
          rcases List.mem_append.1 hy with hy | hy
          · exact HLL.out y hy
          · rw [List.mem_singleton.1 hy]; exact HX.out
        · rw [hh9, List.length_append, HN.out]
          simp
        · exact HO8.out.upd hX9 (fun k hk hm => by have := (HO8.out.lt k hk).1; simp at hm; omega)
        · exact HV8.out.trans' hX9 (fun i hm _ => by rw [List.mem_singleton.1 hm]; exact List.mem_cons_self)
end
end Go.Proofs.YtdfoffheolbokaaDoor
