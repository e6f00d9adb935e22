/-
  The law ChainSteps.
-/
import Derived.Test.YtldhjpliknfhiaaDoorCheck15
namespace Go.Proofs.YtldhjpliknfhiaaDoor
open Go Go.RowKit Go.Proofs
theorem put_row {w w' : World} {z cs : Array Value} {T : Nat} {ty : TypeId} (hT : w.heap.size = T) (hw : (w.alloc (.cells z ty (0, 0))).setRow T cs = w') :
    w'.heap[T]? = some (.cells cs ty (0, 0)) ∧ Upd [] w w' ∧ w'.heap.size = T + 1 := by
  subst hw
  exact ⟨setRow_heap _ _ _ _ ty (0, 0) (hget_new hT.symm), ((Upd.refl _ w).alloc _).setRow _ _ (by omega), by simp [World.setRow, hT]⟩
set_option maxRecDepth 100000 in
set_option maxHeartbeats 3200000 in
theorem law_steps15 (w : World) (m : List (BitVec 8)) (n : Int) (hm : m.length = 32) (hg : Gl256 w) (hf : GlFirst256 w) :
    Calls Tryd.prog 3 #[.agg (m.map U8).toArray, .int .i64 n] w fun x w' => x = .returned (.bool true) ∧ Upd [] w w' := by
  obtain ⟨B, hB⟩ : ∃ B, w.heap.size = B := ⟨_, rfl⟩
  obtain ⟨r, hr⟩ : ∃ r, iterOf m n = r := ⟨_, rfl⟩
  have hrl := iterOf_length m n hm
  have h1 := fun w h1 h2 => iterate_ w m n hm h1 h2
  have h2 := fun w => refiterate w m n hm
  have h3 := fun w h1 h2 => step_ w m hm h1 h2
  have h4 := fun w => refstep w m hm
  rw [hr] at hrl h1 h2
  obtain ⟨R, b⟩ := r
  obtain ⟨S, hS⟩ : ∃ S, sha256 m = S := ⟨_, rfl⟩
  have hSl : S.length = 32 := by rw [← hS]; exact sha256_length m
  rw [hS] at h3 h4
  obtain ⟨cs, hcs⟩ : ∃ cs, (m.map U8).toArray = cs := ⟨_, rfl⟩
  have hs1 := size_of32 hm
  rw [hcs] at h1 h2 h3 h4 hs1 ⊢
  have hsR := size_of32 hrl
  have ho := same_size32 hrl
  have ha := one_of32 R
  have hq1 := fun w => eql_h32 R R hrl hrl w
  have hq2 := fun w => eql_h32 S S hSl hSl w
  have hgd := guard_h32
  simp only [beq_self_eq_true] at hq1 hq2
  obtain ⟨cr, hcr⟩ : ∃ cs, (R.map U8).toArray = cs := ⟨_, rfl⟩
  obtain ⟨ct, hct⟩ : ∃ cs, (S.map U8).toArray = cs := ⟨_, rfl⟩
  simp only [hcr] at h1 h2 hsR ho ha hq1
  simp only [hct] at h3 h4 hq2
  have H1 := Lib.hid h1
  have H2 := Lib.hid h2
  have H3 := Lib.hid h3
  have H4 := Lib.hid h4
  have HG := Lib.hid hg
  have HF := Lib.hid hf
  clear h1 h2 h3 h4 hg hf hr hS hcs hcr hct
  go_enter Tryd.func3, Tryd.ntmps3
  go_upto_region 1 with (fail)
  generalize hw1 : World.alloc w _ = w1
  have hU1 : Upd [] w w1 := by rw [← hw1]; exact (Upd.refl _ w).alloc _
  have h1 : w1.heap[B]? = some (.cells cs 23 (0, 0)) := by rw [← hw1]; exact hget_new hB.symm
  clear hw1
  go_upto_region 2 with (first
    | (refine wpList_load_row rfl 23 _ rfl B rfl 23 _ (0, 0) _ h1 Tryd.underlying23 rfl hs1 ?_)
    | (go_at_call 12; refine (H1.out _ (HG.out.upd hU1 (by simp)) (HF.out.upd hU1 (by simp))).mono ?_; rintro e w2 ⟨rfl, hU2⟩)
    | (refine wpList_store_row rfl 23 _ _ rfl _ cr rfl rfl 23 _ (hget_new rfl) hsR ho ha ?_))
  go_simp
  obtain ⟨T2, hT2⟩ : ∃ T, w2.heap.size = T := ⟨_, rfl⟩
  rw [hT2]
  generalize hw3 : World.setRow (World.alloc w2 _) _ _ = w3
  obtain ⟨h3x, hU3, hS3⟩ := put_row hT2 hw3
  have h3 := hU3.heap (hU2.heap h1 (by simp)) (by simp)
  have hV3 := (hU1.trans hU2).trans hU3
  clear hU3 hw3
  go_upto_region 3 with (first
    | (refine wpList_load_row rfl 23 _ rfl B rfl 23 _ (0, 0) _ h3 Tryd.underlying23 rfl hs1 ?_)
    | (go_at_call 13; refine (H2.out _).mono ?_; rintro e w4 ⟨rfl, hU4⟩)
    | (refine wpList_store_row rfl 23 _ _ rfl _ cr rfl rfl 23 _ (hget_new rfl) hsR ho ha ?_))
  go_simp
  obtain ⟨T4, hT4⟩ : ∃ T, w4.heap.size = T := ⟨_, rfl⟩
  rw [hT4]
  generalize hw5 : World.setRow (World.alloc w4 _) _ _ = w5
  obtain ⟨h5y, hU5, hS5⟩ := put_row hT4 hw5
  have h5 := hU5.heap (hU4.heap h3 (by simp)) (by simp)
  have h5x := hU5.heap (hU4.heap h3x (by simp)) (by simp)
  have hV5 := (hV3.trans hU4).trans hU5
  clear hU5 hw5
  have hsz := size_h32
  have hQB : Hid (∀ w', Upd [] w5 w' → ∃ t fr, w'.heap[B]? = some (.cells cs t fr)) := fun w' h => ⟨_, _, h.heap h5 (by simp)⟩
  have hQX : Hid (∀ w', Upd [] w5 w' → ∃ t fr, w'.heap[T2]? = some (.cells cr t fr)) := fun w' h => ⟨_, _, h.heap h5x (by simp)⟩
  have hQY : Hid (∀ w', Upd [] w5 w' → ∃ t fr, w'.heap[T4]? = some (.cells cr t fr)) := fun w' h => ⟨_, _, h.heap h5y (by simp)⟩
  have HG5 := Lib.hid (HG.out.upd hV5 (by simp))
  have HF5 := Lib.hid (HF.out.upd hV5 (by simp))
  clear hU1 h1 hU2 h3x hS3 h3 hV3 hU4 h5y hS5 h5 h5x
  refine wp_region_quiet_all (Upd [] w5) (by kernel_rfl) (by kernel_rfl) (Upd.refl _ _).drew ?_
  repeat (first
    | (refine wpQuiet_val rfl (quiet_load_row 23 _ rfl B rfl _ hQB.out Tryd.underlying23 rfl hs1) ?_)
    | (refine wpQuiet_val rfl (quiet_load_row 23 _ rfl T2 rfl _ hQX.out Tryd.underlying23 rfl hsR) ?_)
    | (refine wpQuiet_val rfl (quiet_load_row 23 _ rfl T4 rfl _ hQY.out Tryd.underlying23 rfl hsR) ?_)
    | (refine wpQuiet_step (fun K hK => ?_)
       go_simp
       first
         | (refine ⟨_, fun _ _ => rfl, hK _ ?_⟩; clear hK K)
         | (refine ⟨_, fun w2 hw2 => (H3.out w2 (HG5.out.upd hw2 (by simp)) (HF5.out.upd hw2 (by simp))).mono (fun e w' h => ⟨h.1, hw2.trans h.2⟩), hK _ ?_⟩; clear hK K)
         | (refine ⟨_, fun w2 hw2 => (H4.out w2).mono (fun e w' h => ⟨h.1, hw2.trans h.2⟩), hK _ ?_⟩; clear hK K)
         | (refine hK _ ?_; clear hK K)))
  refine wpQuiet_nil ?_
  intro w6 hU6
  go_wp2
  go_ret
  exact ⟨rfl, hV5.trans hU6⟩
end Go.Proofs.YtldhjpliknfhiaaDoor
