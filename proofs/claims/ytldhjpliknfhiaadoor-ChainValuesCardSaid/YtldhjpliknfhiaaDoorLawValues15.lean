/-
  The law ChainValues.
-/
import Derived.Test.YtldhjpliknfhiaaDoorLawSteps15
namespace Go.Proofs.YtldhjpliknfhiaaDoor
open Go Go.RowKit Go.Proofs
set_option maxRecDepth 100000 in
set_option maxHeartbeats 6400000 in
theorem law_values15 (w : World) (m : List (BitVec 8)) (n i : Int) (hm : m.length = 32) (hg : Gl256 w) (hf : GlFirst256 w) :
    Calls Tryd.prog 5 #[.agg (m.map U8).toArray, .int .i64 n, .int .i64 i] w fun x w' => x = .returned (.bool true) ∧ Upd [] w w' := by
  obtain ⟨B, hB⟩ : ∃ B, w.heap.size = B := ⟨_, rfl⟩
  obtain ⟨r, hr⟩ : ∃ r, valueOf m n i = r := ⟨_, rfl⟩
  obtain ⟨r2, hr2⟩ : ∃ r, valueOf m n 0 = r := ⟨_, rfl⟩
  have hrl := valueOf_length m n i hm
  have hrl2 := valueOf_length m n 0 hm
  have h1 := fun w h1 h2 => value_ w m n i hm h1 h2
  have h2 := fun w => refvalue w m n i hm
  have h3 := fun w h1 h2 => anchor_ w m n hm h1 h2
  have h4 := fun w => refanchor w m n hm
  rw [hr] at hrl h1 h2
  rw [hr2] at hrl2 h3 h4
  obtain ⟨R, b⟩ := r
  obtain ⟨S, b2⟩ := r2
  obtain ⟨cs, hcs⟩ : ∃ cs, (m.map U8).toArray = cs := ⟨_, rfl⟩
  have hs1 := size_of32 hm
  rw [hcs] at h1 h2 h3 h4 hs1 ⊢
  have hsR := size_of32 hrl
  have ho := same_size32 hrl
  have ha := one_of32 R
  have hsS := size_of32 hrl2
  have ho2 := same_size32 hrl2
  have ha2 := one_of32 S
  have hq1 := fun w => eql_h32 R R hrl hrl w
  have hq2 := fun w => eql_h32 S S hrl2 hrl2 w
  have hgd := guard_h32
  simp only [beq_self_eq_true] at hq1 hq2
  obtain ⟨cr, hcr⟩ : ∃ cs, (R.map U8).toArray = cs := ⟨_, rfl⟩
  obtain ⟨ct, hct⟩ : ∃ cs, (S.map U8).toArray = cs := ⟨_, rfl⟩
  simp only [hcr] at h1 h2 hsR ho ha hq1
  simp only [hct] at h3 h4 hsS ho2 ha2 hq2
  have H1 := Lib.hid h1
  have H2 := Lib.hid h2
  have H3 := Lib.hid h3
  have H4 := Lib.hid h4
  have HG := Lib.hid hg
  have HF := Lib.hid hf
  clear h1 h2 h3 h4 hg hf hr hr2 hcs hcr hct hrl hrl2
  go_enter Tryd.func5, Tryd.ntmps5
  go_upto_region 1 with (fail)
  generalize hw1 : World.alloc w _ = w1
  have hV1 : Upd [] w w1 := by rw [← hw1]; exact (Upd.refl _ w).alloc _
  have h1 : w1.heap[B]? = some (.cells cs 23 (0, 0)) := by rw [← hw1]; exact hget_new hB.symm
  clear hw1
  go_upto_region 2 with (first
    | (refine wpList_load_row rfl 23 _ rfl B rfl 23 _ (0, 0) _ h1 Tryd.underlying23 rfl hs1 ?_)
    | (go_at_call 17; refine (H1.out _ (HG.out.upd hV1 (by simp)) (HF.out.upd hV1 (by simp))).mono ?_; rintro e w2 ⟨rfl, hU2⟩)
    | (refine wpList_store_row rfl 23 _ _ rfl _ cr rfl rfl 23 _ (hget_new rfl) hsR ho ha ?_))
  go_simp
  obtain ⟨T2, hT2⟩ : ∃ T, w2.heap.size = T := ⟨_, rfl⟩
  rw [hT2]
  generalize hw3 : World.setRow (World.alloc w2 _) _ _ = w3
  obtain ⟨h3_2, hU3, hS3⟩ := put_row hT2 hw3
  have h3 := hU3.heap (hU2.heap h1 (by simp)) (by simp)
  have hV3 := (hV1.trans hU2).trans hU3
  clear hU3 hw3 hU2 h1 hV1 hS3
  go_upto_region 3 with (first
    | (refine wpList_load_row rfl 23 _ rfl B rfl 23 _ (0, 0) _ h3 Tryd.underlying23 rfl hs1 ?_)
    | (go_at_call 18; refine (H2.out _).mono ?_; rintro e w4 ⟨rfl, hU4⟩)
    | (refine wpList_store_row rfl 23 _ _ rfl _ cr rfl rfl 23 _ (hget_new rfl) hsR ho ha ?_))
  go_simp
  obtain ⟨T4, hT4⟩ : ∃ T, w4.heap.size = T := ⟨_, rfl⟩
  rw [hT4]
  generalize hw5 : World.setRow (World.alloc w4 _) _ _ = w5
  obtain ⟨h5_4, hU5, hS5⟩ := put_row hT4 hw5
  have h5 := hU5.heap (hU4.heap h3 (by simp)) (by simp)
  have h5_2 := hU5.heap (hU4.heap h3_2 (by simp)) (by simp)
  have hV5 := (hV3.trans hU4).trans hU5
  clear hU5 hw5 hU4 h3 hV3 hS5 h3_2
  go_upto_region 4 with (first
    | (refine wpList_load_row rfl 23 _ rfl B rfl 23 _ (0, 0) _ h5 Tryd.underlying23 rfl hs1 ?_)
    | (go_at_call 19; refine (H3.out _ (HG.out.upd hV5 (by simp)) (HF.out.upd hV5 (by simp))).mono ?_; rintro e w6 ⟨rfl, hU6⟩)
    | (refine wpList_store_row rfl 23 _ _ rfl _ ct rfl rfl 23 _ (hget_new rfl) hsS ho2 ha2 ?_))
  go_simp
  obtain ⟨T6, hT6⟩ : ∃ T, w6.heap.size = T := ⟨_, rfl⟩
  rw [hT6]
  generalize hw7 : World.setRow (World.alloc w6 _) _ _ = w7
  obtain ⟨h7_6, hU7, hS7⟩ := put_row hT6 hw7
  have h7 := hU7.heap (hU6.heap h5 (by simp)) (by simp)
  have h7_2 := hU7.heap (hU6.heap h5_2 (by simp)) (by simp)
  have h7_4 := hU7.heap (hU6.heap h5_4 (by simp)) (by simp)
  have hV7 := (hV5.trans hU6).trans hU7
  clear hU7 hw7 hU6 h5 hV5 hS7 h5_2 h5_4
  go_upto_region 5 with (first
    | (refine wpList_load_row rfl 23 _ rfl B rfl 23 _ (0, 0) _ h7 Tryd.underlying23 rfl hs1 ?_)
    | (go_at_call 20; refine (H4.out _).mono ?_; rintro e w8 ⟨rfl, hU8⟩)
    | (refine wpList_store_row rfl 23 _ _ rfl _ ct rfl rfl 23 _ (hget_new rfl) hsS ho2 ha2 ?_))
  go_simp
  obtain ⟨T8, hT8⟩ : ∃ T, w8.heap.size = T := ⟨_, rfl⟩
  rw [hT8]
  generalize hw9 : World.setRow (World.alloc w8 _) _ _ = w9
  obtain ⟨h9_8, hU9, hS9⟩ := put_row hT8 hw9
  have h9 := hU9.heap (hU8.heap h7 (by simp)) (by simp)
  have h9_2 := hU9.heap (hU8.heap h7_2 (by simp)) (by simp)
  have h9_4 := hU9.heap (hU8.heap h7_4 (by simp)) (by simp)
  have h9_6 := hU9.heap (hU8.heap h7_6 (by simp)) (by simp)
  have hV9 := (hV7.trans hU8).trans hU9
  clear hU9 hw9 hU8 h7 hV7 hS9 h7_2 h7_4 h7_6
  go_wp2_with (first
    | (refine wpList_load_row_g rfl 23 _ rfl T2 rfl 23 _ (0, 0) _ h9_2 Tryd.underlying23 rfl hsR ?_)
    | (refine wpList_load_row_g rfl 23 _ rfl T4 rfl 23 _ (0, 0) _ h9_4 Tryd.underlying23 rfl hsR ?_)
    | (refine wpList_load_row_g rfl 23 _ rfl T6 rfl 23 _ (0, 0) _ h9_6 Tryd.underlying23 rfl hsS ?_)
    | (refine wpList_load_row_g rfl 23 _ rfl T8 rfl 23 _ (0, 0) _ h9_8 Tryd.underlying23 rfl hsS ?_))
  go_ret
  exact ⟨rfl, hV9⟩
end Go.Proofs.YtldhjpliknfhiaaDoor
