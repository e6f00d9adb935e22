/-
  The Digest of sha256 in memory: New, Clone, Reset, Len.
-/
import Derived.Test.YtghdininkolanaaDoorBlock256
import Derived.Test.YtghdininkolanaaDoorOwn
import Derived.Test.YtghdininkolanaaDoorLed
namespace Go.Proofs.YtghdininkolanaaDoor
open Go Go.RowKit Go.Proofs
/-- the cells of a Digest -/
def dig256Cells (s : St 32) (r : List (BitVec 8)) (n : BitVec 64) : Array Value := (s.list.map U32 ++ r.map U8 ++ [U64 n]).toArray
def Dig256 (w : World) (b : Nat) (s : St 32) (r : List (BitVec 8)) (n : BitVec 64) : Prop :=
  r.length = 64 ∧ w.heap[b]? = some (.cells (dig256Cells s r n) 57 (0, 0))
theorem dig256_size (s : St 32) (r : List (BitVec 8)) (n : BitVec 64) (h : r.length = 64) : (dig256Cells s r n).size = 73 := by
  simp [dig256Cells, St.list, h]
theorem dig256_one (s : St 32) (r : List (BitVec 8)) (n : BitVec 64) : (dig256Cells s r n).all (·.oneCell') = true := by
  simp [dig256Cells]
theorem size_dig256 : (Tryd.prog.info? 57).map (·.size) = some 73 := by kernel_rfl
@[go_sem] theorem zero_dig256 (w : World) : (zeroValue 57).run Tryd.prog w = .ok (.agg (dig256Cells ⟨0, 0, 0, 0, 0, 0, 0, 0⟩ (List.replicate 64 0) 0)) w := by kernel_rfl
def GlFirst256 (w : World) : Prop := ∃ T fr, w.heap[0]? = some (.cells (first256.list.map U32).toArray T fr)
set_option maxRecDepth 100000 in
set_option maxHeartbeats 800000 in
theorem new256 (w : World) (hg : GlFirst256 w) : Calls Tryd.prog 6 #[] w fun e w' => e = .returned (.pointer (some ⟨w.heap.size, 0, none⟩)) ∧ Dig256 w' w.heap.size first256 (List.replicate 64 0) 0 ∧ Upd [] w w' := by
  obtain ⟨T, fr, hg⟩ := hg
  go_enter Tryd.func6, Tryd.ntmps6
  go_wp2_with (first | (refine wpList_load_row rfl 55 _ rfl 0 rfl T _ fr _ hg Tryd.underlying55 rfl size_s32 ?_) | (refine wpList_build_eq rfl 57 _ rfl (dig256Cells first256 (List.replicate 64 0) 0) (by kernel_rfl) ?_))
  go_ret
  refine ⟨rfl, ⟨by simp, ?_⟩, (Upd.refl _ w).alloc _⟩
  exact hget_new rfl
set_option maxRecDepth 100000 in
set_option maxHeartbeats 800000 in
theorem clone256 (w : World) (b : Nat) (s : St 32) (r : List (BitVec 8)) (n : BitVec 64) (h : Dig256 w b s r n) : Calls Tryd.prog 24 #[.pointer (some ⟨b, 0, none⟩)] w fun e w' => e = .returned (.pointer (some ⟨w.heap.size, 0, none⟩)) ∧ Dig256 w' w.heap.size s r n ∧ Upd [] w w' := by
  obtain ⟨hr, hb⟩ := h
  have hs : (Tryd.prog.info? 57).map (·.size) = some (dig256Cells s r n).size := by rw [dig256_size s r n hr]; exact size_dig256
  have ho := dig256_one s r n
  have hz : ∀ z : Array Value, z.size = 73 → z.size = (dig256Cells s r n).size := fun z e => by rw [e, dig256_size s r n hr]
  obtain ⟨cs, hcs⟩ : ∃ cs, dig256Cells s r n = cs := ⟨_, rfl⟩
  rw [hcs] at hb hs ho hz
  have HC := Lib.hid hcs
  clear hcs
  go_enter Tryd.func24, Tryd.ntmps24
  go_wp2_with (first | (refine wpList_load_row rfl 57 _ rfl b rfl 57 _ (0, 0) _ hb Tryd.underlying57 rfl hs ?_) | (refine wpList_store_row rfl 57 _ _ rfl w.heap.size cs rfl rfl 57 _ (hget_new rfl) hs (hz _ (by kernel_rfl)) ho ?_))
  go_ret
  refine ⟨rfl, ⟨hr, ?_⟩, ((Upd.refl _ w).alloc _).setRow _ _ (by simp)⟩
  rw [HC.out]
  exact setRow_heap _ _ _ _ 57 (0, 0) (hget_new rfl)
set_option maxRecDepth 100000 in
set_option maxHeartbeats 800000 in
theorem len256 (w : World) (b : Nat) (s : St 32) (r : List (BitVec 8)) (n : BitVec 64) (h : Dig256 w b s r n) : Calls Tryd.prog 23 #[.pointer (some ⟨b, 0, none⟩)] w fun e w' => e = .returned (U64 n) ∧ w = w' := by
  obtain ⟨hr, hb⟩ := h
  have hc : w.cell? ⟨b, 72, none⟩ = some (U64 n) := by
    rw [cell_of_row _ _ _ _ _ _ hb]
    have hl : (s.list.map U32 ++ r.map U8).length = 72 := by simp [St.list, hr]
    simp only [dig256Cells, List.getElem?_toArray]
    rw [List.getElem?_append_right (by omega), hl]; rfl
  go_enter Tryd.func23, Tryd.ntmps23
  go_wp2
  go_ret
  exact ⟨rfl, rfl⟩
set_option maxRecDepth 100000 in
set_option maxHeartbeats 800000 in
theorem reset256 (w : World) (b : Nat) (s : St 32) (r : List (BitVec 8)) (n : BitVec 64) (h : Dig256 w b s r n) (hg : GlFirst256 w) : Calls Tryd.prog 25 #[.pointer (some ⟨b, 0, none⟩)] w fun e w' => (∃ v, e = .returned v) ∧ Dig256 w' b first256 (List.replicate 64 0) 0 ∧ Upd [b] w w' := by
  obtain ⟨hr, hb⟩ := h
  obtain ⟨T, fr, hg⟩ := hg
  have hs : (Tryd.prog.info? 57).map (·.size) = some (dig256Cells first256 (List.replicate 64 0) 0).size := by rw [dig256_size _ _ _ (by simp)]; exact size_dig256
  have ho : (dig256Cells s r n).size = (dig256Cells first256 (List.replicate 64 0) 0).size := by rw [dig256_size s r n hr, dig256_size first256 _ _ (by simp)]
  have ha := dig256_one first256 (List.replicate 64 0) 0
  go_enter Tryd.func25, Tryd.ntmps25
  go_wp2_with (first | (refine wpList_load_row rfl 55 _ rfl 0 rfl T _ fr _ hg Tryd.underlying55 rfl size_s32 ?_) | (refine wpList_build_eq rfl 57 _ rfl (dig256Cells first256 (List.replicate 64 0) 0) (by kernel_rfl) ?_) | (refine wpList_store_row rfl 57 _ _ rfl b (dig256Cells first256 (List.replicate 64 0) 0) rfl rfl 57 _ hb hs ho ha ?_))
  refine bodyPost_end (results_none rfl _ _ _) rfl ?_
  refine ⟨⟨_, rfl⟩, ⟨by simp, ?_⟩, (Upd.refl _ w).setRow _ _ (by simp)⟩
  exact setRow_heap _ _ _ _ 57 (0, 0) hb
end Go.Proofs.YtghdininkolanaaDoor
