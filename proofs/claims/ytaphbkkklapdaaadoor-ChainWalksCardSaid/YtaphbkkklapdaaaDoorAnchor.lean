/-
  chain.Anchor.
-/
import Derived.Test.YtaphbkkklapdaaaDoorValue
namespace Go.Proofs.YtaphbkkklapdaaaDoor
open Go Go.RowKit Go.Proofs
set_option maxRecDepth 100000 in
set_option maxHeartbeats 3200000 in
theorem anchor_ (w : World) (m : List (BitVec 8)) (n : Int) (hm : m.length = 32) (hg : Gl256 w) (hf : GlFirst256 w) :
    Calls Tryd.prog 13 #[.agg (m.map U8).toArray, .int .i64 n] w fun e w' => e = .returned (.tuple #[.agg ((valueOf m n 0).1.map U8).toArray, .bool (valueOf m n 0).2]) ∧ Upd [] w w' := by
  obtain ⟨B, hB⟩ : ∃ B, w.heap.size = B := ⟨_, rfl⟩
  obtain ⟨r, hr⟩ : ∃ r, valueOf m n 0 = r := ⟨_, rfl⟩
  have hv := fun w h1 h2 => value_ w m n 0 hm h1 h2
  have hrl := valueOf_length m n 0 hm
  rw [hr] at hv hrl ⊢
  obtain ⟨R, b⟩ := r
  obtain ⟨cs, hcs⟩ : ∃ cs, (m.map U8).toArray = cs := ⟨_, rfl⟩
  have hs1 := size_of32 hm
  rw [hcs] at hv hs1 ⊢
  have hs2 := size_of32 hrl
  have ho := same_size32 hrl
  have ha := one_of32 R
  have HV := Lib.hid hv
  have HG := Lib.hid hg
  have HF := Lib.hid hf
  clear hg hf
  clear hv hr hcs
  go_enter Tryd.func13, Tryd.ntmps13
  go_wp2_with (first
    | (refine wpList_load_row rfl 23 _ rfl B rfl 23 _ (0, 0) _ (hget_old (hget_new hB.symm)) Tryd.underlying23 rfl hs1 ?_)
    | (go_at_call 9; refine (HV.out _ (HG.out.upd (((Upd.refl [] w).alloc _).alloc _) (by simp)) (HF.out.upd (((Upd.refl [] w).alloc _).alloc _) (by simp))).mono ?_; rintro e w4 ⟨rfl, hU4⟩; have h4 : w4.heap[B + 1]? = some (.cells (zrow8 32) 23 (0, 0)) := hU4.heap (hget_new (by simp [hB])) (by simp))
    | (refine wpList_store_row rfl 23 _ _ rfl (B + 1) _ rfl rfl 23 _ h4 hs2 ho ha ?_))
  refine bodyPost_ret (v := .tuple #[.agg (R.map U8).toArray, .bool b]) (results_agg_tmp (p := 4) (u := 5) rfl _ _ (B + 1) 23 _ (0, 0) _ rfl (setRow_heap w4 (B + 1) _ _ 23 (0, 0) h4) Tryd.underlying23 rfl hs2) rfl ⟨rfl, ?_⟩
  exact ((((Upd.refl [] w).alloc _).alloc _).trans hU4).setRow _ _ (by omega)
end Go.Proofs.YtaphbkkklapdaaaDoor
