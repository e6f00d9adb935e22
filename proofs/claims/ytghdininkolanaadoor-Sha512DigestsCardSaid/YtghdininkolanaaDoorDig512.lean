/-
  The Digest of sha512 in memory: New, Clone, Reset, Len.
-/
import Derived.Test.YtghdininkolanaaDoorBlock512
import Derived.Test.YtghdininkolanaaDoorOwn
import Derived.Test.YtghdininkolanaaDoorLed
namespace Go.Proofs.YtghdininkolanaaDoor
open Go Go.RowKit Go.Proofs
/-- the cells of a Digest -/
def dig512Cells (s : St 64) (r : List (BitVec 8)) (k : Nat) (n : BitVec 64) : Array Value := (s.list.map U64 ++ r.map U8 ++ [.int .i64 (k : Int), U64 n]).toArray
def Dig512 (w : World) (b : Nat) (s : St 64) (r : List (BitVec 8)) (k : Nat) (n : BitVec 64) : Prop :=
  r.length = 128 ∧ w.heap[b]? = some (.cells (dig512Cells s r k n) 69 (0, 0))
theorem dig512_size (s : St 64) (r : List (BitVec 8)) (k : Nat) (n : BitVec 64) (h : r.length = 128) : (dig512Cells s r k n).size = 138 := by
  simp [dig512Cells, St.list, h]
theorem dig512_one (s : St 64) (r : List (BitVec 8)) (k : Nat) (n : BitVec 64) : (dig512Cells s r k n).all (·.oneCell') = true := by
  have : (Value.int IntKind.i64 (k : Int)).oneCell' = true := rfl
  simp [dig512Cells, this]
theorem size_dig512 : (Tryd.prog.info? 69).map (·.size) = some 138 := by kernel_rfl
@[go_sem] theorem zero_dig512 (w : World) : (zeroValue 69).run Tryd.prog w = .ok (.agg (dig512Cells ⟨0, 0, 0, 0, 0, 0, 0, 0⟩ (List.replicate 128 0) 0 0)) w := by kernel_rfl
def GlFirst512 (w : World) : Prop := ∃ T fr, w.heap[2]? = some (.cells (first512.list.map U64).toArray T fr)
set_option maxRecDepth 100000 in
set_option maxHeartbeats 800000 in
theorem new512 (w : World) (hg : GlFirst512 w) : Calls Tryd.prog 26 #[] w fun e w' => e = .returned (.pointer (some ⟨w.heap.size, 0, none⟩)) ∧ Dig512 w' w.heap.size first512 (List.replicate 128 0) 0 0 ∧ Upd [] w w' := by
  obtain ⟨T, fr, hg⟩ := hg
  go_enter Tryd.func26, Tryd.ntmps26
  go_wp2_with (first | (refine wpList_load_row rfl 66 _ rfl 2 rfl T _ fr _ hg Tryd.underlying66 rfl size_s64 ?_) | (refine wpList_build_eq rfl 69 _ rfl (dig512Cells first512 (List.replicate 128 0) 0 0) (by kernel_rfl) ?_))
  go_ret
  refine ⟨rfl, ⟨by simp, ?_⟩, (Upd.refl _ w).alloc _⟩
  exact hget_new rfl
set_option maxRecDepth 100000 in
set_option maxHeartbeats 800000 in
theorem clone512 (w : World) (b : Nat) (s : St 64) (r : List (BitVec 8)) (k : Nat) (n : BitVec 64) (h : Dig512 w b s r k n) : Calls Tryd.prog 14 #[.pointer (some ⟨b, 0, none⟩)] w fun e w' => e = .returned (.pointer (some ⟨w.heap.size, 0, none⟩)) ∧ Dig512 w' w.heap.size s r k n ∧ Upd [] w w' := by
  obtain ⟨hr, hb⟩ := h
  have hs : (Tryd.prog.info? 69).map (·.size) = some (dig512Cells s r k n).size := by rw [dig512_size s r k n hr]; exact size_dig512
  have ho := dig512_one s r k n
  have hz : ∀ z : Array Value, z.size = 138 → z.size = (dig512Cells s r k n).size := fun z e => by rw [e, dig512_size s r k n hr]
  obtain ⟨cs, hcs⟩ : ∃ cs, dig512Cells s r k n = cs := ⟨_, rfl⟩
  rw [hcs] at hb hs ho hz
  have HC := Lib.hid hcs
  clear hcs
  go_enter Tryd.func14, Tryd.ntmps14
  go_wp2_with (first | (refine wpList_load_row rfl 69 _ rfl b rfl 69 _ (0, 0) _ hb Tryd.underlying69 rfl hs ?_) | (refine wpList_store_row rfl 69 _ _ rfl w.heap.size cs rfl rfl 69 _ (hget_new rfl) hs (hz _ (by kernel_rfl)) ho ?_))
  go_ret
  refine ⟨rfl, ⟨hr, ?_⟩, ((Upd.refl _ w).alloc _).setRow _ _ (by simp)⟩
  rw [HC.out]
  exact setRow_heap _ _ _ _ 69 (0, 0) (hget_new rfl)
set_option maxRecDepth 100000 in
set_option maxHeartbeats 800000 in
theorem len512 (w : World) (b : Nat) (s : St 64) (r : List (BitVec 8)) (k : Nat) (n : BitVec 64) (h : Dig512 w b s r k n) : Calls Tryd.prog 13 #[.pointer (some ⟨b, 0, none⟩)] w fun e w' => e = .returned (U64 n) ∧ w = w' := by
  obtain ⟨hr, hb⟩ := h
  have hc : w.cell? ⟨b, 137, none⟩ = some (U64 n) := by
    rw [cell_of_row _ _ _ _ _ _ hb]
    have hl : (s.list.map U64 ++ r.map U8).length = 136 := by simp [St.list, hr]
    simp only [dig512Cells, List.getElem?_toArray]
    rw [List.getElem?_append_right (by omega), hl]; rfl
  go_enter Tryd.func13, Tryd.ntmps13
  go_wp2
  go_ret
  exact ⟨rfl, rfl⟩
set_option maxRecDepth 100000 in
set_option maxHeartbeats 800000 in
theorem reset512 (w : World) (b : Nat) (s : St 64) (r : List (BitVec 8)) (k : Nat) (n : BitVec 64) (h : Dig512 w b s r k n) (hg : GlFirst512 w) : Calls Tryd.prog 15 #[.pointer (some ⟨b, 0, none⟩)] w fun e w' => (∃ v, e = .returned v) ∧ Dig512 w' b first512 (List.replicate 128 0) 0 0 ∧ Upd [b] w w' := by
  obtain ⟨hr, hb⟩ := h
  obtain ⟨T, fr, hg⟩ := hg
  have hs : (Tryd.prog.info? 69).map (·.size) = some (dig512Cells first512 (List.replicate 128 0) 0 0).size := by rw [dig512_size _ _ _ _ (by simp)]; exact size_dig512
  have ho : (dig512Cells s r k n).size = (dig512Cells first512 (List.replicate 128 0) 0 0).size := by rw [dig512_size s r k n hr, dig512_size first512 _ _ _ (by simp)]
  have ha := dig512_one first512 (List.replicate 128 0) 0 0
  go_enter Tryd.func15, Tryd.ntmps15
  go_wp2_with (first | (refine wpList_load_row rfl 66 _ rfl 2 rfl T _ fr _ hg Tryd.underlying66 rfl size_s64 ?_) | (refine wpList_build_eq rfl 69 _ rfl (dig512Cells first512 (List.replicate 128 0) 0 0) (by kernel_rfl) ?_) | (refine wpList_store_row rfl 69 _ _ rfl b (dig512Cells first512 (List.replicate 128 0) 0 0) rfl rfl 69 _ hb hs ho ha ?_))
  refine bodyPost_end (results_none rfl _ _ _) rfl ?_
  refine ⟨⟨_, rfl⟩, ⟨by simp, ?_⟩, (Upd.refl _ w).setRow _ _ (by simp)⟩
  exact setRow_heap _ _ _ _ 69 (0, 0) hb
end Go.Proofs.YtghdininkolanaaDoor
