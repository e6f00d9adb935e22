/-
  Arms for the walk: laws of single operations that match by the operation's form (so that they fail at once where they do not fit), and that hand on a new name for the world.
-/
import Derived.Test.YtjeddokenpkpnaaMem
import Derived.Laws.Rows
import Derived.Great.BuildSlice
namespace Go.Proofs.Ytjeddokenpkpnaa
open Go Go.RowKit
section
variable {P : Program} {ops : Array Oper} {rest : List Oper} {a : Act} {w : World} {Q : Exit → Act → World → Prop} {dst : Option Tmp} {ty type : TypeId} {pos : String} {after : Array Edge} {x y : Operand}
theorem wpl_wanted {o : Oper} (hw : Region.wanted o (yielded ops a.tmps) = true)
    (h : ∀ K : Act → World → Prop, (∀ a w, wpList P ops Q rest a w → K a w) → o.wp P a w K Q) : wpList P ops Q (o :: rest) a w := by
  show if Region.wanted o (yielded ops a.tmps) = true then _ else _
  rw [if_pos hw]
  exact .inl (h _ fun _ _ h => h)
/-- a whole row is read -/
theorem arm_load {g : Nat} {t : TypeId} {cs : Array Value} {fr : Nat × Nat} {d : TypeDesc} (hx : a.eval x = .pointer (some ⟨g, 0, none⟩)) (hg : w.heap[g]? = some (.cells cs t fr))
    (hu : P.underlying ty = some d) (hd : (match d with | .struct _ | .array _ _ => true | _ => false) = true) (hi : (P.info? ty).map (·.size) = some cs.size)
    (h : wpList P ops Q rest (a.put dst (.agg cs)) w) : wpList P ops Q (⟨dst, .load ty x, type, pos, after, none⟩ :: rest) a w :=
  wpList_load_row rfl ty x rfl g hx t cs fr d hg hu hd hi h
theorem arm_load_g {gd : Nat × Bool} {g : Nat} {t : TypeId} {cs : Array Value} {fr : Nat × Nat} {d : TypeDesc} (hw : Region.wanted ⟨dst, .load ty x, type, pos, after, some gd⟩ (yielded ops a.tmps) = true)
    (hx : a.eval x = .pointer (some ⟨g, 0, none⟩)) (hg : w.heap[g]? = some (.cells cs t fr))
    (hu : P.underlying ty = some d) (hd : (match d with | .struct _ | .array _ _ => true | _ => false) = true) (hi : (P.info? ty).map (·.size) = some cs.size)
    (h : wpList P ops Q rest (a.put dst (.agg cs)) w) : wpList P ops Q (⟨dst, .load ty x, type, pos, after, some gd⟩ :: rest) a w :=
  wpl_wanted hw fun _ hK => wp_load_row ty x rfl g hx t cs fr d hg hu hd hi (hK _ _ h)
/-- a whole row is written -/
theorem arm_store {g : Nat} {t : TypeId} {cells old : Array Value} (hx : a.eval x = .pointer (some ⟨g, 0, none⟩)) (hy : a.eval y = .agg cells) (hg : w.heap[g]? = some (.cells old t (0, 0)))
    (hi : (P.info? ty).map (·.size) = some cells.size) (ho : old.size = cells.size) (h1 : cells.all (·.oneCell') = true)
    (h : ∀ w', w'.heap[g]? = some (.cells cells t (0, 0)) → Upd [g] w w' → w'.heap.size = w.heap.size → wpList P ops Q rest (a.put dst undef) w') : wpList P ops Q (⟨dst, .store ty x y, type, pos, after, none⟩ :: rest) a w :=
  wpList_store_row rfl ty x y rfl g cells hx hy t old hg hi ho h1 (h _ (setRow_heap w g old cells t (0, 0) hg) ((Upd.refl _ w).setRow g cells (by simp)) (by simp))
/-- a value of one cell is written -/
theorem arm_store1 {g : Nat} {t : TypeId} {v u : Value} (hx : a.eval x = .pointer (some ⟨g, 0, none⟩)) (hy : a.eval y = v) (hg : w.heap[g]? = some (.cells #[u] t (0, 0))) (hvc : v.cells = #[v])
    (hi : (P.info? ty).map (·.size) = some 1) (h1 : v.oneCell' = true)
    (h : ∀ w', w'.heap[g]? = some (.cells #[v] t (0, 0)) → Upd [g] w w' → w'.heap.size = w.heap.size → wpList P ops Q rest (a.put dst undef) w') : wpList P ops Q (⟨dst, .store ty x y, type, pos, after, none⟩ :: rest) a w := by
  refine wpList_plain rfl fun K hK => ?_
  have hs : (storeVar ty ⟨g, 0, none⟩ v).run P w = .ok () (w.setRow g #[v]) := by
    have := run_storeVar_row (P := P) w g t ty #[u] #[v] hg hi rfl (by simpa using h1)
    rw [← this]
    unfold storeVar
    rw [hvc]
    rfl
  unfold Oper.wp execOp
  simp only [hx, hy, Instr.storeAt, Instr.sureAddr, Sem.run_bind, Sem.run_pure, Result.andThen_ok, hs]
  exact hK _ _ (h _ (setRow_heap w g #[u] #[v] t (0, 0) hg) ((Upd.refl _ w).setRow g #[v] (by simp)) (by simp))
/-- the zero value, built -/
theorem arm_build0 {cs : Array Value} (hf : P.built ty [] = some cs) (h : wpList P ops Q rest (a.put dst (.agg cs)) w) : wpList P ops Q (⟨dst, .build ty #[], type, pos, after, none⟩ :: rest) a w :=
  wpList_plain rfl fun _ hK => wp_build ty #[] rfl (by simp [hf]) (by simp only [List.map_toArray, List.map_nil, hf, Option.getD_some]; exact hK _ _ h)
theorem arm_build0_g {gd : Nat × Bool} {cs : Array Value} (hw : Region.wanted ⟨dst, .build ty #[], type, pos, after, some gd⟩ (yielded ops a.tmps) = true) (hf : P.built ty [] = some cs) (h : wpList P ops Q rest (a.put dst (.agg cs)) w) :
    wpList P ops Q (⟨dst, .build ty #[], type, pos, after, some gd⟩ :: rest) a w :=
  wpl_wanted hw fun _ hK => wp_build ty #[] rfl (by simp [hf]) (by simp only [List.map_toArray, List.map_nil, hf, Option.getD_some]; exact hK _ _ h)
theorem run_newRow' (t : TypeId) (cs : Array Value) (w : World) : (newRow t cs).run P w = .ok ⟨w.heap.size, 0, none⟩ (w.alloc (.cells cs t (0, 0))) := by
  simp [go_sem]
/-- a new block with a value's cells -/
theorem arm_box {v : Value} (hx : a.eval x = v)
    (h : ∀ b w', w.heap.size = b → w'.heap[b]? = some (.cells v.cells ty (0, 0)) → Upd [] w w' → w'.heap.size = b + 1 → wpList P ops Q rest (a.put dst (.pointer (some ⟨b, 0, none⟩))) w') :
    wpList P ops Q (⟨dst, .box ty x, type, pos, after, none⟩ :: rest) a w := by
  refine wpList_plain rfl fun K hK => ?_
  unfold Oper.wp execOp
  simp only [hx, Instr.box, newVar, Sem.run_bind, run_newRow', Sem.run_pure, Result.andThen_ok]
  exact hK _ _ (h _ _ rfl (hget_new rfl) ((Upd.refl _ w).alloc _) (by simp))
/-- a new block of zeros -/
theorem arm_alloc {z : Value} (hz : (zeroValue ty).run P w = .ok z w)
    (h : ∀ b w', w.heap.size = b → w'.heap[b]? = some (.cells z.cells ty (0, 0)) → Upd [] w w' → w'.heap.size = b + 1 → wpList P ops Q rest (a.put dst (.pointer (some ⟨b, 0, none⟩))) w') :
    wpList P ops Q (⟨dst, .alloc ty, type, pos, after, none⟩ :: rest) a w := by
  refine wpList_plain rfl fun K hK => ?_
  unfold Oper.wp execOp
  simp only [Instr.alloc, newVar, Sem.run_bind, hz, run_newRow', Sem.run_pure, Result.andThen_ok]
  exact hK _ _ (h _ _ rfl (hget_new rfl) ((Upd.refl _ w).alloc _) (by simp))
end
/-- values of one cell each, laid into a new block: two, three, one of them -/
theorem arm_bs2 {P : Program} {ops : Array Oper} {rest : List Oper} {a : Act} {w : World} {Q : Exit → Act → World → Prop} {dst : Option Tmp} {ty type e : TypeId} {pos : String} {after : Array Edge} {x1 x2 : Operand} {ie : TypeInfo} {z : Value}
    (hu : P.underlying ty = some (.slice e)) (hie : P.info? e = some ie) (hs : ie.size = 1) (hz : ie.zero = some z) (hz1 : z.cells = #[z]) {v1 v2 : Value} (h1 : a.eval x1 = v1) (h2 : a.eval x2 = v2) (c1 : v1.cells = #[v1]) (c2 : v2.cells = #[v2])
    (h : ∀ g w', w.heap.size = g → w'.heap[g]? = some (.cells #[v1, v2] e (0, 0)) → Upd [] w w' → wpList P ops Q rest (a.put dst (.slice (some ⟨g, 0, none⟩) 2 2)) w') :
    wpList P ops Q (⟨dst, .buildSlice ty 2 #[(0, x1), (1, x2)], type, pos, after, none⟩ :: rest) a w :=
  wpList_buildSlice rfl ty e 2 _ rfl #[v1, v2] ie z hu hie hz (by rw [hs]; decide) (by rw [hs]; decide) (by simp [hs, hz1, h1, h2, Instr.fill, c1, c2, show Array.range 2 = #[0, 1] from by decide]) (h _ _ rfl (hget_new rfl) ((Upd.refl _ w).alloc _))
theorem arm_bs3 {P : Program} {ops : Array Oper} {rest : List Oper} {a : Act} {w : World} {Q : Exit → Act → World → Prop} {dst : Option Tmp} {ty type e : TypeId} {pos : String} {after : Array Edge} {x1 x2 x3 : Operand} {ie : TypeInfo} {z : Value}
    (hu : P.underlying ty = some (.slice e)) (hie : P.info? e = some ie) (hs : ie.size = 1) (hz : ie.zero = some z) (hz1 : z.cells = #[z]) {v1 v2 v3 : Value} (h1 : a.eval x1 = v1) (h2 : a.eval x2 = v2) (h3 : a.eval x3 = v3) (c1 : v1.cells = #[v1]) (c2 : v2.cells = #[v2]) (c3 : v3.cells = #[v3])
    (h : ∀ g w', w.heap.size = g → w'.heap[g]? = some (.cells #[v1, v2, v3] e (0, 0)) → Upd [] w w' → wpList P ops Q rest (a.put dst (.slice (some ⟨g, 0, none⟩) 3 3)) w') :
    wpList P ops Q (⟨dst, .buildSlice ty 3 #[(0, x1), (1, x2), (2, x3)], type, pos, after, none⟩ :: rest) a w :=
  wpList_buildSlice rfl ty e 3 _ rfl #[v1, v2, v3] ie z hu hie hz (by rw [hs]; decide) (by rw [hs]; decide) (by simp [hs, hz1, h1, h2, h3, Instr.fill, c1, c2, c3, show Array.range 3 = #[0, 1, 2] from by decide]) (h _ _ rfl (hget_new rfl) ((Upd.refl _ w).alloc _))
theorem arm_bs1 {P : Program} {ops : Array Oper} {rest : List Oper} {a : Act} {w : World} {Q : Exit → Act → World → Prop} {dst : Option Tmp} {ty type e : TypeId} {pos : String} {after : Array Edge} {x1 : Operand} {ie : TypeInfo} {z : Value}
    (hu : P.underlying ty = some (.slice e)) (hie : P.info? e = some ie) (hs : ie.size = 1) (hz : ie.zero = some z) (hz1 : z.cells = #[z]) {v1 : Value} (h1 : a.eval x1 = v1) (c1 : v1.cells = #[v1])
    (h : ∀ g w', w.heap.size = g → w'.heap[g]? = some (.cells #[v1] e (0, 0)) → Upd [] w w' → wpList P ops Q rest (a.put dst (.slice (some ⟨g, 0, none⟩) 1 1)) w') :
    wpList P ops Q (⟨dst, .buildSlice ty 1 #[(0, x1)], type, pos, after, none⟩ :: rest) a w :=
  wpList_buildSlice rfl ty e 1 _ rfl #[v1] ie z hu hie hz (by rw [hs]; decide) (by rw [hs]; decide) (by simp [hs, hz1, h1, Instr.fill, c1, show Array.range 1 = #[0] from by decide]) (h _ _ rfl (hget_new rfl) ((Upd.refl _ w).alloc _))
theorem Upd.fresh {w w1 w2 : World} {b : Nat} (h1 : Upd [] w w1) (hb : w.heap.size = b) (h2 : Upd [b] w1 w2) : Upd [] w w2 :=
  h1.trans' h2 (fun i hm hi => by simp at hm; omega)
end Go.Proofs.Ytjeddokenpkpnaa
