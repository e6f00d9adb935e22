/-
  A word's eight bytes, the highest first: bits.StoreBE, and the document's tell.
-/
import Derived.Test.YtaphbkkklapdaaaDoorBytes
import Derived.Test.YtaphbkkklapdaaaDoorBits64
namespace Go.Proofs.YtaphbkkklapdaaaDoor
open Go Go.RowKit Go.Proofs
def tell64 (x : BitVec 64) : List (BitVec 8) := (List.range 8).map fun i => (x >>> (56 - 8 * i)).setWidth 8
theorem tell64_length (x : BitVec 64) : (tell64 x).length = 8 := by simp [tell64]
theorem tell64_get (x : BitVec 64) (k : Nat) (h : k < 8) : (tell64 x)[k]'(by rw [tell64_length]; exact h) = (x >>> (56 - 8 * k)).setWidth 8 := by simp [tell64]
theorem store64_step (x : BitVec 64) (j : Nat) (h : j + 1 ≤ 8) : (List.replicate (j + 1) 0 ++ (tell64 x).drop (j + 1)).set j ((x >>> (8 * (8 - (j + 1)))).setWidth 8) = List.replicate j 0 ++ (tell64 x).drop j := by
  rw [List.drop_eq_getElem_cons (i := j) (by rw [tell64_length]; omega), tell64_get x j (by omega), List.replicate_succ', List.append_assoc, List.set_append_right _ _ (by simp)]
  simp
  congr 2
  omega
set_option maxRecDepth 100000 in
set_option maxHeartbeats 1600000 in
theorem storeBE64 (w : World) (x : BitVec 64) : Calls Tryd.prog 35 #[U64 x] w fun e w' => ∃ v, e = .returned v ∧ OwnB w' w.heap.size v (tell64 x) ∧ Upd [] w w' := by
  go_enter Tryd.func35, Tryd.ntmps35
  go_upto_region 2 with (first | (go_at_call 43; refine (width64 _).mono ?_; rintro e w' ⟨rfl, rfl⟩) | (refine make_bytes rfl _ _ rfl w.heap.size 8 8 _ _ rfl rfl rfl rfl (by omega) (by omega) (Nat.le_refl _) ?_; intro w1 hO hU))
  obtain ⟨g, hg⟩ : ∃ g, w.heap.size = g := ⟨_, rfl⟩
  rw [hg] at hO ⊢
  go_wp2
  go_loopw [0, 4] (fun xv i wr => ∃ j : Nat, j ≤ 8 ∧ i = .int .i64 ((j : Int) - 1) ∧ xv = U64 (x >>> (8 * (8 - j))) ∧ OwnB wr g (.slice (some ⟨g, 0, none⟩) 8 8) (List.replicate j 0 ++ (tell64 x).drop j) ∧ Upd [] w wr) (fun _ i _ => (intOf i + 1).toNat)
  case atStart => exact ⟨8, by omega, rfl, by simp, by rw [List.drop_eq_nil_of_le (by rw [tell64_length]; omega), List.append_nil]; exact hO, hU⟩
  case round =>
    obtain ⟨j, hj, rfl, rfl, hO, hU⟩ := hrel
    cases j with
    | zero =>
      go_wp2
      go_ret
      exact ⟨_, rfl, by rw [← hg] at hO ⊢; simpa using hO, hU⟩
    | succ j =>
      have hlen : (List.replicate (j + 1) 0 ++ (tell64 x).drop (j + 1)).length = 8 := by simp [tell64_length]; omega
      have hs := OwnB.set hO j (by rw [hlen]; omega) ((x >>> (8 * (8 - (j + 1)))).setWidth 8)
      rw [store64_step x j hj, show 8 - (j + 1) = 7 - j by omega] at hs
      rw [show 8 - (j + 1) = 7 - j by omega]
      have hf := OwnB.frozen hO j (by rw [hlen]; omega)
      have hc := hO.cell j (by rw [hlen]; omega)
      have e8 : x >>> (8 * (7 - j)) >>> 8 = x >>> (8 * (8 - j)) := by
        rw [← BitVec.shiftRight_add]; congr 1; omega
      have hk : (intOf (Value.int IntKind.i64 ((j : Int) - 1)) + 1).toNat < (intOf (Value.int IntKind.i64 (((j + 1 : Nat) : Int) - 1)) + 1).toNat := by simp [intOf]
      have hu := hU.setCell ⟨g, j, none⟩ (U8 ((x >>> (8 * (7 - j))).setWidth 8)) (by simp; omega)
      have HS := Lib.hid hs
      have HK := Lib.hid hk
      clear hs hk hO
      go_wp2
      exact ⟨⟨j, by omega, rfl, rfl, HS.out, hu⟩, HK.out⟩
end Go.Proofs.YtaphbkkklapdaaaDoor
