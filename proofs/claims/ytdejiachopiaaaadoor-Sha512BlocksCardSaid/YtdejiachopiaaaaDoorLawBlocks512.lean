/-
  The law Sha512Blocks: for every state and block it returns true and makes only new memory.
-/
import Derived.Test.YtdejiachopiaaaaDoorRef03c
import Derived.Test.YtdejiachopiaaaaDoorEq
namespace Go.Proofs.YtdejiachopiaaaaDoor
open Go Go.RowKit Go.Proofs
theorem block512_cells (s : St 64) (l : List (BitVec 8)) : (block512 s l).list.length = 8 := rfl
theorem guard_w64 (op : BinOp) (x y : Operand) (A B : Array Value) (w : World) : (eqGuard op 25 x y (.agg A) (.agg B)).run Tryd.prog w = .ok () w := run_eqGuard_agg w op _ x y A B (by kernel_rfl)
theorem guard_s64 (op : BinOp) (x y : Operand) (A B : Array Value) (w : World) : (eqGuard op 23 x y (.agg A) (.agg B)).run Tryd.prog w = .ok () w := run_eqGuard_agg w op _ x y A B (by kernel_rfl)
theorem info_u64 : ∃ i, Tryd.prog.info? 22 = some i ∧ i.size = 1 := by
  have h := size_u64
  cases hq : Tryd.prog.info? 22 with
  | none => rw [hq] at h; cases h
  | some i => exact ⟨i, rfl, by rw [hq] at h; simpa using h⟩
theorem eql_w64 (xs ys : List (BitVec 64)) (hx : xs.length = 80) (hy : ys.length = 80) (w : World) : (binOp .eql 25 (.agg (xs.map U64).toArray) (.agg (ys.map U64).toArray)).run Tryd.prog w = .ok (.bool (xs == ys)) w := by
  obtain ⟨i, hi, hs⟩ := info_u64
  exact run_eql_words w Tryd.underlying25 Tryd.underlying22 hi hs xs ys hx hy
theorem eql_s64 (xs ys : List (BitVec 64)) (hx : xs.length = 8) (hy : ys.length = 8) (w : World) : (binOp .eql 23 (.agg (xs.map U64).toArray) (.agg (ys.map U64).toArray)).run Tryd.prog w = .ok (.bool (xs == ys)) w := by
  obtain ⟨i, hi, hs⟩ := info_u64
  exact run_eql_words w Tryd.underlying23 Tryd.underlying22 hi hs xs ys hx hy
set_option maxRecDepth 100000 in
set_option maxHeartbeats 1600000 in
theorem law_blocks512 (w : World) (s : St 64) (l : List (BitVec 8)) (hl : l.length = 128) (hg : Gl512 w) (hg3 : Gl3 w) : Calls Tryd.prog 3 #[.agg (s.list.map U64).toArray, .agg (l.map U8).toArray] w fun e w' => e = .returned (.bool true) ∧ Upd [] w w' := by
  have hb : (Tryd.prog.info? 24).map (·.size) = some ((l.map U8).toArray).size := by simp only [List.size_toArray, List.length_map, hl]; exact size_b128
  obtain ⟨W, hW⟩ : ∃ W, words64 l 80 = W := ⟨_, rfl⟩
  obtain ⟨t, ht⟩ : ∃ t, block512 s l = t := ⟨_, rfl⟩
  have hWl : W.length = 80 := by rw [← hW]; exact words64_length l 80
  have eW := eql_w64 W W hWl hWl
  rw [beq_self_eq_true] at eW
  have eS := eql_s64 t.list t.list rfl rfl
  rw [beq_self_eq_true] at eS
  have gW := guard_w64
  have gS := guard_s64
  have hs1 := fun w => sched64 w l hl
  have hs2 := fun w => refsched64 w l hl
  have hs3 := fun w h => block512_any w s l hl h
  have hs4 := fun w h => refblock512 w s l hl h
  rw [hW] at hs1 hs2
  rw [ht] at hs3 hs4
  have H1 := Lib.hid hs1
  have H2 := Lib.hid hs2
  have H3 := Lib.hid hs3
  have H4 := Lib.hid hs4
  clear hs1 hs2 hs3 hs4 hW ht
  go_enter Tryd.func3, Tryd.ntmps3
  go_wp2
  generalize hw1 : (w.alloc _).alloc _ = w1
  have hu1 : Upd [] w w1 := by rw [← hw1]; exact ((Upd.refl [] w).alloc _).alloc _
  have h0 : w1.heap[w.heap.size]? = some (.cells (s.list.map U64).toArray 23 (0, 0)) := by rw [← hw1]; exact hget_old (hget_new rfl)
  have h1 : w1.heap[w.heap.size + 1]? = some (.cells (l.map U8).toArray 24 (0, 0)) := by rw [← hw1]; exact hget_new (by simp)
  have hC0 : ∀ w', Upd [] w1 w' → ∃ t fr, w'.heap[w.heap.size]? = some (.cells (s.list.map U64).toArray t fr) := fun w' h => ⟨_, _, h.heap h0 (by simp)⟩
  have hC1 : ∀ w', Upd [] w1 w' → ∃ t fr, w'.heap[w.heap.size + 1]? = some (.cells (l.map U8).toArray t fr) := fun w' h => ⟨_, _, h.heap h1 (by simp)⟩
  have hG := hg.upd hu1 (by simp)
  have hG3 := hg3.upd hu1 (by simp)
  have HC0 := Lib.hid hC0
  have HC1 := Lib.hid hC1
  have HG := Lib.hid hG
  have HG3 := Lib.hid hG3
  clear hw1 h0 h1 hC0 hC1 hG hg hG3 hg3
  refine wp_region_quiet_all (Upd [] w1) (by kernel_rfl) (by kernel_rfl) (Upd.refl _ _).drew ?_
  repeat (first
    | (refine wpQuiet_val rfl (quiet_load_row 24 _ rfl (w.heap.size + 1) rfl _ HC1.out Tryd.underlying24 rfl hb) ?_)
    | (refine wpQuiet_val rfl (quiet_load_row 23 _ rfl w.heap.size rfl _ HC0.out Tryd.underlying23 rfl size_s64) ?_)
    | (refine wpQuiet_step (fun K hK => ?_)
       go_simp
       first
         | (refine ⟨_, fun _ _ => rfl, hK _ ?_⟩; clear hK K)
         | (refine ⟨_, fun w2 hw2 => (H1.out w2).mono (fun e w' h => ⟨h.1, hw2.trans h.2⟩), hK _ ?_⟩; clear hK K)
         | (refine ⟨_, fun w2 hw2 => (H2.out w2).mono (fun e w' h => ⟨h.1, hw2.trans h.2⟩), hK _ ?_⟩; clear hK K)
         | (refine ⟨_, fun w2 hw2 => (H3.out w2 (HG.out.upd hw2 (by simp))).mono (fun e w' h => ⟨h.1, hw2.trans h.2⟩), hK _ ?_⟩; clear hK K)
         | (refine ⟨_, fun w2 hw2 => (H4.out w2 (HG3.out.upd hw2 (by simp))).mono (fun e w' h => ⟨h.1, hw2.trans h.2⟩), hK _ ?_⟩; clear hK K)))
  refine wpQuiet_nil ?_
  intro w2 hu2
  go_wp2
  go_ret
  exact ⟨rfl, hu1.trans hu2⟩
end Go.Proofs.YtdejiachopiaaaaDoor
