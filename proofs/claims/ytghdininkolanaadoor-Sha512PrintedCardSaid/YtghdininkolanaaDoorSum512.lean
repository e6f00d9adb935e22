/-
  Sum of a message by sha512.
-/
import Derived.Test.YtghdininkolanaaDoorDigSum512
namespace Go.Proofs.YtghdininkolanaaDoor
open Go Go.RowKit Go.Proofs
theorem GlFirst512.upd {S : List Nat} {w w' : World} (h : GlFirst512 w) (u : Upd S w w') (hn : 2 ∉ S) : GlFirst512 w' := by
  obtain ⟨T, fr, h⟩ := h
  exact ⟨T, fr, u.heap h hn⟩
theorem GlFirst512.lt {w : World} (h : GlFirst512 w) : 2 < w.heap.size := by obtain ⟨T, fr, h⟩ := h; exact lt_of_heap h
theorem Gl512.lt {w : World} (h : Gl512 w) : 5 < w.heap.size := by obtain ⟨_, _, h⟩ := h; exact lt_of_heap h
set_option maxRecDepth 100000 in
set_option maxHeartbeats 3200000 in
theorem sum512 (w : World) (v : Value) (m : List (BitVec 8)) (hv : RdB w v m) (hm : m.length ≤ 281474976710656) (hg : Gl512 w) (hf : GlFirst512 w) :
    Calls Tryd.prog 17 #[v] w fun e w' => e = .returned (.agg ((sha512 m).map U8).toArray) ∧ Upd [] w w' := by
  obtain ⟨H, hH⟩ : ∃ H, sha512 m = H := ⟨_, rfl⟩
  have hHl : H.length = 64 := by rw [← hH]; exact sha512_length m
  have hds := fun w b h1 h2 => digsum512 w b m h1 h2
  rw [hH] at hds ⊢
  have HDS := Lib.hid hds
  have hs : (Tryd.prog.info? 46).map (·.size) = some ((H.map U8).toArray).size := by simp only [List.size_toArray, List.length_map, hHl]; exact size_w64b
  have ho : (zrow8 64).size = ((H.map U8).toArray).size := by simp only [List.size_toArray, List.length_map, hHl, zrow8_size]
  have ha : ((H.map U8).toArray).all (·.oneCell') = true := by simp
  have hgl := hg.lt
  have hfl := hf.lt
  have HG := Lib.hid hg
  have HF := Lib.hid hf
  have HV := Lib.hid hv
  obtain ⟨B, hB⟩ : ∃ B, w.heap.size = B := ⟨_, rfl⟩
  rw [hB] at hgl hfl
  clear hH hds hg hf hv
  go_enter Tryd.func17, Tryd.ntmps17
  go_upto_region 1 with (fail)
  generalize hw1 : World.alloc w _ = w1
  have hU1 : Upd [] w w1 := by rw [← hw1]; exact (Upd.refl _ w).alloc _
  have h1 : w1.heap[B]? = some (.cells (zrow8 64) 46 (0, 0)) := by rw [← hw1]; exact hget_new hB.symm
  have hs1 : w1.heap.size = B + 1 := by rw [← hw1]; simp [hB]
  have HB := Lib.hid hB
  have HS1 := Lib.hid hs1
  have HB1 := Lib.hid h1
  clear hB hs1 h1 hw1
  go_wp2_with (first
    | (go_at_call 26; refine (newof512 _ (HF.out.upd hU1 (by simp))).mono ?_; rintro e w2 ⟨rfl, hD2, hU2⟩; rw [HS1.out] at hD2 ⊢)
    | (go_at_call 28; refine (write512 _ _ v [] m hD2 ((HV.out.upd0 hU1).upd0 hU2) (by intro h0 h; have := HV.out.lt h0 _ h; have := HB.out; omega) (by omega) ((HG.out.upd hU1 (by simp)).upd hU2 (by simp)) (by omega)).mono ?_; rintro e w3 ⟨⟨y, rfl⟩, hD3, hU3⟩)
    | (go_at_call 11; refine (HDS.out _ _ hD3 (((HG.out.upd hU1 (by simp)).upd hU2 (by simp)).upd hU3 (by simp; omega))).mono ?_; rintro e w4 ⟨rfl, hU4⟩)
    | (refine wpList_store_row rfl 46 _ _ rfl B _ rfl rfl 46 _ (hU4.heap (hU3.heap (hU2.heap HB1.out (by simp)) (by simp)) (by simp)) hs ho ha ?_))
  refine bodyPost_ret (v := .agg (H.map U8).toArray) (results_cell_row rfl _ _ B 46 _ (0, 0) _ rfl (setRow_heap w4 B _ _ 46 (0, 0) (hU4.heap (hU3.heap (hU2.heap HB1.out (by simp)) (by simp)) (by simp))) Tryd.underlying46 rfl hs) rfl ⟨rfl, ?_⟩
  have hW : Upd [] w w4 := ((hU1.trans hU2).trans' hU3 (fun i hi hlt => by simp at hi; have := HB.out; omega)).trans hU4
  exact hW.setRow _ _ (by have := HB.out; omega)
end Go.Proofs.YtghdininkolanaaDoor
