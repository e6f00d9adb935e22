/-
  A tree in memory; New, Size; stores of one cell in the midst of a block.
-/
import Derived.Test.YtdfoffheolbokaaDoorPeaks
namespace Go.Proofs.YtdfoffheolbokaaDoor
open Go Go.RowKit Go.Proofs
/-- a cell in the midst of a block is written -/
theorem arm_store_at {P : Program} {ops : Array Oper} {rest : List Oper} {a : Act} {w : World} {Q : Exit → Act → World → Prop} {dst : Option Tmp} {ty type : TypeId} {pos : String} {after : Array Edge} {x y : Operand} {g k : Nat} {t : TypeId} {cells : Array Value} {v : Value}
    (hx : a.eval x = .pointer (some ⟨g, k, none⟩)) (hy : a.eval y = v) (hg : w.heap[g]? = some (.cells cells t (0, 0))) (hk : k < cells.size) (hvc : v.cells = #[v]) (hi : (P.info? ty).map (·.size) = some 1) (h1 : v.oneCell' = true)
    (h : ∀ w', w'.heap[g]? = some (.cells (cells.setIfInBounds k v) t (0, 0)) → Upd [g] w w' → w'.heap.size = w.heap.size → wpList P ops Q rest (a.put dst undef) w') : wpList P ops Q (⟨dst, .store ty x y, type, pos, after, none⟩ :: rest) a w := by
  refine wpList_plain rfl fun K hK => ?_
  have hg' : w.heap[g]? = some (.cells cells.toList.toArray t (0, 0)) := by simpa using hg
  have hs : (storeVar ty ⟨g, k, none⟩ v).run P w = .ok () (w.setCells g k [v]) := by
    have := run_storeVar_mid (P := P) w g k ty #[v] (there_of_row hg' k 1 (by simpa using Nat.succ_le_of_lt hk)) hi (by simpa using h1)
    rw [← this]
    unfold storeVar
    rw [hvc]
    rfl
  unfold Oper.wp execOp
  simp only [hx, hy, Instr.storeAt, Instr.sureAddr, Sem.run_bind, Sem.run_pure, Result.andThen_ok, hs]
  refine hK _ _ (h _ ?_ ((Upd.refl _ w).setCells g k _ (by simp)) (setCells_size g _ k w))
  exact heap_setCell_any w g k t (0, 0) cells v hg
theorem quiet_build2 {P : Program} {C : World → Prop} {a : Act} {o : Oper} (ty : TypeId) (x0 x1 : Operand) (ho : o.op = .build ty #[(0, x0), (1, x1)]) {v0 v1 : Value} {cs : Array Value} (h0 : a.eval x0 = v0) (h1 : a.eval x1 = v1) (hf : P.built ty [(0, v0), (1, v1)] = some cs) :
    ∀ w, C w → o.quietAt P a C w (.agg cs) := by
  intro w hw
  subst h0 h1
  unfold Oper.quietAt execOp
  simp only [ho, Sem.run_bind, Sem.run_pure, Result.andThen_ok, List.map_toArray, List.map_cons, List.map_nil, run_build w ty #[(0, a.eval x0), (1, a.eval x1)] cs (by simpa using hf)]
  exact ⟨rfl, rfl⟩
theorem wpQuiet_valK {P : Program} {ops : Array Oper} {C : World → Prop} {Q : Act → Prop} {a : Act} {o : Oper} {rest : List Oper} {v : Value} (hw : Region.wanted o (yielded ops a.tmps) = true) (h : ∀ w, C w → o.quietAt P a C w v)
    (hn : ∀ K : Act → Prop, (∀ a, wpQuiet P ops C Q rest a → K a) → K (a.put o.dst v)) : wpQuiet P ops C Q (o :: rest) a := wpQuiet_val hw h (hn _ fun _ h => h)
/-- a tree of these leaves: its block, its row of peaks -/
def TreeAt (w : World) (bt : Nat) (pv : Value) (l : List H8) : Prop := (∀ x ∈ l, x.length = 32) ∧ ∃ S, Peaks S l ∧ w.heap[bt]? = some (.cells #[pv, .int .i64 l.length] 69 (0, 0)) ∧ OwnK w (bt + 1) pv S
/-- two values share no block -/
def Sep (a b : Value) : Prop := ∀ k, a.ownBlock = some k → b.ownBlock ≠ some k
theorem Sep.symm {a b : Value} (h : Sep a b) : Sep b a := fun k h1 h2 => h k h2 h1
theorem Sep.grow {a b a' : Value} {n : Nat} (h : Sep a b) (hg : a'.ownBlock = a.ownBlock ∨ ∃ k, a'.ownBlock = some k ∧ n ≤ k) (hb : ∀ k, b.ownBlock = some k → k < n) : Sep a' b := fun k h1 h2 => by
  rcases hg with hg | ⟨j, hj, hn⟩
  · exact h k (by rw [← hg]; exact h1) h2
  · have := hb k h2
    rw [hj] at h1
    injection h1 with h1
    omega
theorem TreeAt.lt {w : World} {bt : Nat} {pv : Value} {l : List H8} (h : TreeAt w bt pv l) : bt < w.heap.size ∧ ∀ k, pv.ownBlock = some k → bt < k ∧ k < w.heap.size := by
  obtain ⟨_, S, _, hh, ho⟩ := h
  exact ⟨lt_of_heap hh, fun k hk => by have := ho.lt k hk; omega⟩
theorem TreeAt.upd {w w' : World} {bt : Nat} {pv : Value} {l : List H8} {T : List Nat} (h : TreeAt w bt pv l) (u : Upd T w w') (h1 : bt ∉ T) (h2 : ∀ k, pv.ownBlock = some k → k ∉ T) : TreeAt w' bt pv l := by
  obtain ⟨hl, S, hp, hh, ho⟩ := h
  exact ⟨hl, S, hp, u.heap hh h1, ho.upd u h2⟩
theorem TreeAt.upd0 {w w' : World} {bt : Nat} {pv : Value} {l : List H8} (h : TreeAt w bt pv l) (u : Upd [] w w') : TreeAt w' bt pv l := h.upd u (by simp) (by simp)
set_option maxRecDepth 100000 in
theorem new_ (w : World) : Calls Tryd.prog 11 #[] w fun e w' => ∃ b, e = .returned (.pointer (some ⟨b, 0, none⟩)) ∧ b = w.heap.size ∧ TreeAt w' b (.slice none 0 0) [] ∧ Upd [] w w' := by
  have hb : Tryd.prog.built 69 [] = some #[.slice none 0 0, .int .i64 0] := by kernel_rfl
  go_enter Tryd.func11, Tryd.ntmps11
  go_wp2_with (first
    | (with_reducible refine arm_build0 hb ?_)
    | (with_reducible refine arm_box (by with_unfolding_all exact rfl) ?_))
  intro b w1 hb1 k1 hU1 hz1
  change w1.heap[b]? = some (.cells #[.slice none 0 0, .int .i64 0] 69 (0, 0)) at k1
  go_wp2_with (fail)
  go_ret
  exact ⟨b, rfl, hb1.symm, ⟨by simp, [], Peaks.nil, k1, OwnK.nil _ _⟩, hU1⟩
set_option maxRecDepth 100000 in
theorem size_ (w : World) (bt : Nat) (pv : Value) (l : List H8) (h : TreeAt w bt pv l) : Calls Tryd.prog 14 #[.pointer (some ⟨bt, 0, none⟩)] w fun e w' => e = .returned (.int .i64 l.length) ∧ Upd [] w w' := by
  obtain ⟨_, S, _, hh, _⟩ := h
  obtain ⟨n, hn⟩ : ∃ n, l.length = n := ⟨_, rfl⟩
  rw [hn] at hh ⊢
  have hc : w.cell? ⟨bt, 1, none⟩ = some (.int .i64 n) := by rw [cell_of_row _ _ _ _ _ _ hh]; rfl
  clear hh hn
  go_enter Tryd.func14, Tryd.ntmps14
  go_wp2_with (fail)
  go_ret
  exact ⟨rfl, Upd.refl _ _⟩
end Go.Proofs.YtdfoffheolbokaaDoor
