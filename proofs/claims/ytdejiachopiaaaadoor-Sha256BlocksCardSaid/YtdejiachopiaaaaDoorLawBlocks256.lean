/-
  The law Sha256Blocks: for every state and block it returns true and makes only new memory.
-/
import Derived.Test.YtdejiachopiaaaaDoorRef02c
import Derived.Test.YtdejiachopiaaaaDoorEq
namespace Go.Proofs.YtdejiachopiaaaaDoor
open Go Go.RowKit Go.Proofs
theorem block256_cells (s : St 32) (l : List (BitVec 8)) : (block256 s l).list.length = 8 := rfl
theorem guard_w32 (op : BinOp) (x y : Operand) (A B : Array Value) (w : World) : (eqGuard op 32 x y (.agg A) (.agg B)).run Tryd.prog w = .ok () w := run_eqGuard_agg w op _ x y A B (by kernel_rfl)
theorem guard_s32 (op : BinOp) (x y : Operand) (A B : Array Value) (w : World) : (eqGuard op 30 x y (.agg A) (.agg B)).run Tryd.prog w = .ok () w := run_eqGuard_agg w op _ x y A B (by kernel_rfl)
theorem info_u32 : ∃ i, Tryd.prog.info? 29 = some i ∧ i.size = 1 := by
  have h := size_u32
  cases hq : Tryd.prog.info? 29 with
  | none => rw [hq] at h; cases h
  | some i => exact ⟨i, rfl, by rw [hq] at h; simpa using h⟩
theorem eql_w32 (xs ys : List (BitVec 32)) (hx : xs.length = 64) (hy : ys.length = 64) (w : World) : (binOp .eql 32 (.agg (xs.map U32).toArray) (.agg (ys.map U32).toArray)).run Tryd.prog w = .ok (.bool (xs == ys)) w := by
  obtain ⟨i, hi, hs⟩ := info_u32
  exact run_eql_words w Tryd.underlying32 Tryd.underlying29 hi hs xs ys hx hy
theorem eql_s32 (xs ys : List (BitVec 32)) (hx : xs.length = 8) (hy : ys.length = 8) (w : World) : (binOp .eql 30 (.agg (xs.map U32).toArray) (.agg (ys.map U32).toArray)).run Tryd.prog w = .ok (.bool (xs == ys)) w := by
  obtain ⟨i, hi, hs⟩ := info_u32
  exact run_eql_words w Tryd.underlying30 Tryd.underlying29 hi hs xs ys hx hy
set_option maxRecDepth 100000 in
set_option maxHeartbeats 1600000 in
theorem law_blocks256 (w : World) (s : St 32) (l : List (BitVec 8)) (hl : l.length = 64) (hg : Gl256 w) : Calls Tryd.prog 4 #[.agg (s.list.map U32).toArray, .agg (l.map U8).toArray] w fun e w' => e = .returned (.bool true) ∧ Upd [] w w' := by
  have hb : (Tryd.prog.info? 31).map (·.size) = some ((l.map U8).toArray).size := by simp only [List.size_toArray, List.length_map, hl]; exact size_b64
  obtain ⟨W, hW⟩ : ∃ W, words32 l 64 = W := ⟨_, rfl⟩
  obtain ⟨t, ht⟩ : ∃ t, block256 s l = t := ⟨_, rfl⟩
  have hWl : W.length = 64 := by rw [← hW]; exact words32_length l 64
  have eW := eql_w32 W W hWl hWl
  rw [beq_self_eq_true] at eW
  have eS := eql_s32 t.list t.list rfl rfl
  rw [beq_self_eq_true] at eS
  have gW := guard_w32
  have gS := guard_s32
  have hs1 := fun w => sched32 w l hl
  have hs2 := fun w => refsched32 w l hl
  have hs3 := fun w h => block256_any w s l hl h
  have hs4 := fun w => refblock256 w s l hl
  rw [hW] at hs1 hs2
  rw [ht] at hs3 hs4
  have H1 := Lib.hid hs1
  have H2 := Lib.hid hs2
  have H3 := Lib.hid hs3
  have H4 := Lib.hid hs4
  clear hs1 hs2 hs3 hs4 hW ht
  go_enter Tryd.func4, Tryd.ntmps4
  go_wp2
  generalize hw1 : (w.alloc _).alloc _ = w1
  have hu1 : Upd [] w w1 := by rw [← hw1]; exact ((Upd.refl [] w).alloc _).alloc _
  have h0 : w1.heap[w.heap.size]? = some (.cells (s.list.map U32).toArray 30 (0, 0)) := by rw [← hw1]; exact hget_old (hget_new rfl)
  have h1 : w1.heap[w.heap.size + 1]? = some (.cells (l.map U8).toArray 31 (0, 0)) := by rw [← hw1]; exact hget_new (by simp)
  have hC0 : ∀ w', Upd [] w1 w' → ∃ t fr, w'.heap[w.heap.size]? = some (.cells (s.list.map U32).toArray t fr) := fun w' h => ⟨_, _, h.heap h0 (by simp)⟩
  have hC1 : ∀ w', Upd [] w1 w' → ∃ t fr, w'.heap[w.heap.size + 1]? = some (.cells (l.map U8).toArray t fr) := fun w' h => ⟨_, _, h.heap h1 (by simp)⟩
  have hG := hg.upd hu1 (by simp)
  have HC0 := Lib.hid hC0
  have HC1 := Lib.hid hC1
  have HG := Lib.hid hG
  clear hw1 h0 h1 hC0 hC1 hG hg
  refine wp_region_quiet_all (Upd [] w1) (by kernel_rfl) (by kernel_rfl) (Upd.refl _ _).drew ?_
  repeat (first
    | (refine wpQuiet_val rfl (quiet_load_row 31 _ rfl (w.heap.size + 1) rfl _ HC1.out Tryd.underlying31 rfl hb) ?_)
    | (refine wpQuiet_val rfl (quiet_load_row 30 _ rfl w.heap.size rfl _ HC0.out Tryd.underlying30 rfl size_s32) ?_)
    | (refine wpQuiet_step (fun K hK => ?_)
       go_simp
       first
         | (refine ⟨_, fun _ _ => rfl, hK _ ?_⟩; clear hK K)
         | (refine ⟨_, fun w2 hw2 => (H1.out w2).mono (fun e w' h => ⟨h.1, hw2.trans h.2⟩), hK _ ?_⟩; clear hK K)
         | (refine ⟨_, fun w2 hw2 => (H2.out w2).mono (fun e w' h => ⟨h.1, hw2.trans h.2⟩), hK _ ?_⟩; clear hK K)
         | (refine ⟨_, fun w2 hw2 => (H3.out w2 (HG.out.upd hw2 (by simp))).mono (fun e w' h => ⟨h.1, hw2.trans h.2⟩), hK _ ?_⟩; clear hK K)
         | (refine ⟨_, fun w2 hw2 => (H4.out w2).mono (fun e w' h => ⟨h.1, hw2.trans h.2⟩), hK _ ?_⟩; clear hK K)))
  refine wpQuiet_nil ?_
  intro w2 hu2
  go_wp2
  go_ret
  exact ⟨rfl, hu1.trans hu2⟩
end Go.Proofs.YtdejiachopiaaaaDoor
