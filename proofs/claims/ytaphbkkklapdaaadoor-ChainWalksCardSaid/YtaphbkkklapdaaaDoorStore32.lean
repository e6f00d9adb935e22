/-
  A word's four bytes, the highest first: bits.StoreBE, and the document's tell.
-/
import Derived.Test.YtaphbkkklapdaaaDoorBytes
import Derived.Test.YtaphbkkklapdaaaDoorBits32
namespace Go.Proofs.YtaphbkkklapdaaaDoor
open Go Go.RowKit Go.Proofs
def tell32 (x : BitVec 32) : List (BitVec 8) := (List.range 4).map fun i => (x >>> (24 - 8 * i)).setWidth 8
theorem tell32_length (x : BitVec 32) : (tell32 x).length = 4 := by simp [tell32]
theorem tell32_get (x : BitVec 32) (k : Nat) (h : k < 4) : (tell32 x)[k]'(by rw [tell32_length]; exact h) = (x >>> (24 - 8 * k)).setWidth 8 := by simp [tell32]
theorem store32_step (x : BitVec 32) (j : Nat) (h : j + 1 ≤ 4) : (List.replicate (j + 1) 0 ++ (tell32 x).drop (j + 1)).set j ((x >>> (8 * (4 - (j + 1)))).setWidth 8) = List.replicate j 0 ++ (tell32 x).drop j := by
  rw [List.drop_eq_getElem_cons (i := j) (by rw [tell32_length]; omega), tell32_get x j (by omega), List.replicate_succ', List.append_assoc, List.set_append_right _ _ (by simp)]
  simp
  congr 2
  omega
set_option maxRecDepth 100000 in
set_option maxHeartbeats 1600000 in
theorem storeBE32 (w : World) (x : BitVec 32) : Calls Tryd.prog 28 #[U32 x] w fun e w' => ∃ v, e = .returned v ∧ OwnB w' w.heap.size v (tell32 x) ∧ Upd [] w w' := by
  go_enter Tryd.func28, Tryd.ntmps28
  go_upto_region 2 with (first | (go_at_call 36; refine (width32 _).mono ?_; rintro e w' ⟨rfl, rfl⟩) | (refine make_bytes rfl _ _ rfl w.heap.size 4 4 _ _ rfl rfl rfl rfl (by omega) (by omega) (Nat.le_refl _) ?_; intro w1 hO hU))
  obtain ⟨g, hg⟩ : ∃ g, w.heap.size = g := ⟨_, rfl⟩
  rw [hg] at hO ⊢
  go_wp2
  go_loopw [0, 4] (fun xv i wr => ∃ j : Nat, j ≤ 4 ∧ i = .int .i64 ((j : Int) - 1) ∧ xv = U32 (x >>> (8 * (4 - j))) ∧ OwnB wr g (.slice (some ⟨g, 0, none⟩) 4 4) (List.replicate j 0 ++ (tell32 x).drop j) ∧ Upd [] w wr) (fun _ i _ => (intOf i + 1).toNat)
  case atStart => exact ⟨4, by omega, rfl, by simp, by rw [List.drop_eq_nil_of_le (by rw [tell32_length]; omega), List.append_nil]; exact hO, hU⟩
  case round =>
    obtain ⟨j, hj, rfl, rfl, hO, hU⟩ := hrel
    cases j with
    | zero =>
      go_wp2
      go_ret
      exact ⟨_, rfl, by rw [← hg] at hO ⊢; simpa using hO, hU⟩
    | succ j =>
      have hlen : (List.replicate (j + 1) 0 ++ (tell32 x).drop (j + 1)).length = 4 := by simp [tell32_length]; omega
      have hs := OwnB.set hO j (by rw [hlen]; omega) ((x >>> (8 * (4 - (j + 1)))).setWidth 8)
      rw [store32_step x j hj, show 4 - (j + 1) = 3 - j by omega] at hs
      rw [show 4 - (j + 1) = 3 - j by omega]
      have hf := OwnB.frozen hO j (by rw [hlen]; omega)
      have hc := hO.cell j (by rw [hlen]; omega)
      have e8 : x >>> (8 * (3 - j)) >>> 8 = x >>> (8 * (4 - j)) := by
        rw [← BitVec.shiftRight_add]; congr 1; omega
      have hk : (intOf (Value.int IntKind.i64 ((j : Int) - 1)) + 1).toNat < (intOf (Value.int IntKind.i64 (((j + 1 : Nat) : Int) - 1)) + 1).toNat := by simp [intOf]
      have hu := hU.setCell ⟨g, j, none⟩ (U8 ((x >>> (8 * (3 - j))).setWidth 8)) (by simp; omega)
      have HS := Lib.hid hs
      have HK := Lib.hid hk
      clear hs hk hO
      go_wp2
      exact ⟨⟨j, by omega, rfl, rfl, HS.out, hu⟩, HK.out⟩
end Go.Proofs.YtaphbkkklapdaaaDoor
