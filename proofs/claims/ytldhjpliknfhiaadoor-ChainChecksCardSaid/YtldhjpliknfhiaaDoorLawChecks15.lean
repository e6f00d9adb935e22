/-
  The law ChainChecks.
-/
import Derived.Test.YtldhjpliknfhiaaDoorLawSteps15
namespace Go.Proofs.YtldhjpliknfhiaaDoor
open Go Go.RowKit Go.Proofs
set_option maxRecDepth 100000 in
set_option maxHeartbeats 6400000 in
theorem law_checks15 (w : World) (low high : List (BitVec 8)) (n e l : Int) (hl : low.length = 32) (hh : high.length = 32) (hg : Gl256 w) (hf : GlFirst256 w) :
    Calls Tryd.prog 6 #[.agg (low.map U8).toArray, .int .i64 n, .int .i64 e, .int .i64 l, .agg (high.map U8).toArray] w fun x w' => x = .returned (.bool true) ∧ Upd [] w w' := by
  obtain ⟨B, hB⟩ : ∃ B, w.heap.size = B := ⟨_, rfl⟩
  have h1 := fun w h1 h2 => check_ w low high n l hl hh h1 h2
  have h2 := fun w => refcheck w low high n l hl hh
  have h3 := fun w h1 h2 => link_ w low high e l hl hh h1 h2
  have h4 := fun w => reflink w low high e l hl hh
  obtain ⟨c1, hc1⟩ : ∃ r, checkOf low n l high = r := ⟨_, rfl⟩
  obtain ⟨c2, hc2⟩ : ∃ r, linkOf e low l high = r := ⟨_, rfl⟩
  rw [hc1] at h1 h2
  rw [hc2] at h3 h4
  obtain ⟨cl, hcl⟩ : ∃ cs, (low.map U8).toArray = cs := ⟨_, rfl⟩
  obtain ⟨ch, hch⟩ : ∃ cs, (high.map U8).toArray = cs := ⟨_, rfl⟩
  have hs1 := size_of32 hl
  have hs2 := size_of32 hh
  rw [hcl] at hs1
  rw [hch] at hs2
  rw [hcl, hch] at h1 h2 h3 h4 ⊢
  have H1 := Lib.hid h1
  have H2 := Lib.hid h2
  have H3 := Lib.hid h3
  have H4 := Lib.hid h4
  have HG := Lib.hid hg
  have HF := Lib.hid hf
  clear h1 h2 h3 h4 hg hf hc1 hc2 hcl hch hl hh
  go_enter Tryd.func6, Tryd.ntmps6
  go_upto_region 1 with (fail)
  generalize hw1 : World.alloc (World.alloc w _) _ = w1
  have hV1 : Upd [] w w1 := by rw [← hw1]; exact ((Upd.refl _ w).alloc _).alloc _
  have h1 : w1.heap[B]? = some (.cells cl 23 (0, 0)) := by rw [← hw1]; exact hget_old (hget_new hB.symm)
  have h2 : w1.heap[B + 1]? = some (.cells ch 23 (0, 0)) := by rw [← hw1]; exact hget_new (by simp [hB])
  have hQ1 : Hid (∀ w', Upd [] w1 w' → ∃ t fr, w'.heap[B]? = some (.cells cl t fr)) := fun w' h => ⟨_, _, h.heap h1 (by simp)⟩
  have hQ2 : Hid (∀ w', Upd [] w1 w' → ∃ t fr, w'.heap[B + 1]? = some (.cells ch t fr)) := fun w' h => ⟨_, _, h.heap h2 (by simp)⟩
  have HG5 := Lib.hid (HG.out.upd hV1 (by simp))
  have HF5 := Lib.hid (HF.out.upd hV1 (by simp))
  clear h1 h2 hw1
  refine wp_region_quiet_all (Upd [] w1) (by kernel_rfl) (by kernel_rfl) (Upd.refl _ _).drew ?_
  repeat (first
    | (refine wpQuiet_val rfl (quiet_load_row 23 _ rfl B rfl _ hQ1.out Tryd.underlying23 rfl hs1) ?_)
    | (refine wpQuiet_val rfl (quiet_load_row 23 _ rfl (B + 1) rfl _ hQ2.out Tryd.underlying23 rfl hs2) ?_)
    | (refine wpQuiet_step (fun K hK => ?_)
       go_simp
       first
         | (refine ⟨_, fun _ _ => rfl, hK _ ?_⟩; clear hK K)
         | (refine ⟨_, fun w2 hw2 => (H1.out w2 (HG5.out.upd hw2 (by simp)) (HF5.out.upd hw2 (by simp))).mono (fun e w' h => ⟨h.1, hw2.trans h.2⟩), hK _ ?_⟩; clear hK K)
         | (refine ⟨_, fun w2 hw2 => (H2.out w2).mono (fun e w' h => ⟨h.1, hw2.trans h.2⟩), hK _ ?_⟩; clear hK K)
         | (refine ⟨_, fun w2 hw2 => (H3.out w2 (HG5.out.upd hw2 (by simp)) (HF5.out.upd hw2 (by simp))).mono (fun e w' h => ⟨h.1, hw2.trans h.2⟩), hK _ ?_⟩; clear hK K)
         | (refine ⟨_, fun w2 hw2 => (H4.out w2).mono (fun e w' h => ⟨h.1, hw2.trans h.2⟩), hK _ ?_⟩; clear hK K)
         | (refine hK _ ?_; clear hK K)))
  refine wpQuiet_nil ?_
  intro w6 hU6
  go_wp2
  go_ret
  exact ⟨rfl, hV1.trans hU6⟩
end Go.Proofs.YtldhjpliknfhiaaDoor
