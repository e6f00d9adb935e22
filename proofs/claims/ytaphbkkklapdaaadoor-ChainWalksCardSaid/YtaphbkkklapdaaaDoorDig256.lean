/-
  The Digest of sha256 in memory: New, Clone, Reset, Len.
-/
import Derived.Test.YtaphbkkklapdaaaDoorBlock256
import Derived.Test.YtaphbkkklapdaaaDoorOwn
import Derived.Test.YtaphbkkklapdaaaDoorLed
namespace Go.Proofs.YtaphbkkklapdaaaDoor
open Go Go.RowKit Go.Proofs
/-- the cells of a Digest -/
def dig256Cells (s : St 32) (r : List (BitVec 8)) (n : BitVec 64) : Array Value := (s.list.map U32 ++ r.map U8 ++ [U64 n]).toArray
def Dig256 (w : World) (b : Nat) (s : St 32) (r : List (BitVec 8)) (n : BitVec 64) : Prop :=
  r.length = 64 ∧ w.heap[b]? = some (.cells (dig256Cells s r n) 58 (0, 0))
theorem dig256_size (s : St 32) (r : List (BitVec 8)) (n : BitVec 64) (h : r.length = 64) : (dig256Cells s r n).size = 73 := by
  simp [dig256Cells, St.list, h]
theorem dig256_one (s : St 32) (r : List (BitVec 8)) (n : BitVec 64) : (dig256Cells s r n).all (·.oneCell') = true := by
  simp [dig256Cells]
theorem size_dig256 : (Tryd.prog.info? 58).map (·.size) = some 73 := by kernel_rfl
@[go_sem] theorem zero_dig256 (w : World) : (zeroValue 58).run Tryd.prog w = .ok (.agg (dig256Cells ⟨0, 0, 0, 0, 0, 0, 0, 0⟩ (List.replicate 64 0) 0)) w := by kernel_rfl
def GlFirst256 (w : World) : Prop := ∃ T fr, w.heap[0]? = some (.cells (first256.list.map U32).toArray T fr)
set_option maxRecDepth 100000 in
set_option maxHeartbeats 800000 in
theorem new256 (w : World) (hg : GlFirst256 w) : Calls Tryd.prog 22 #[] w fun e w' => e = .returned (.pointer (some ⟨w.heap.size, 0, none⟩)) ∧ Dig256 w' w.heap.size first256 (List.replicate 64 0) 0 ∧ Upd [] w w' := by
  obtain ⟨T, fr, hg⟩ := hg
  go_enter Tryd.func22, Tryd.ntmps22
  go_wp2_with (first | (refine wpList_load_row rfl 54 _ rfl 0 rfl T _ fr _ hg Tryd.underlying54 rfl size_s32 ?_) | (refine wpList_build_eq rfl 58 _ rfl (dig256Cells first256 (List.replicate 64 0) 0) (by kernel_rfl) ?_))
  go_ret
  refine ⟨rfl, ⟨by simp, ?_⟩, (Upd.refl _ w).alloc _⟩
  exact hget_new rfl
end Go.Proofs.YtaphbkkklapdaaaDoor
