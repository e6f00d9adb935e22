/-
  CheckConsistency from no leaves.
-/
import Derived.Test.YtdfoffheolbokaaDoorCheckC
namespace Go.Proofs.YtdfoffheolbokaaDoor
open Go Go.RowKit Go.Proofs
set_option maxRecDepth 100000 in
set_option maxHeartbeats 6400000 in
theorem checkC_zero (w : World) (old : H8) (ct : Array Value) (n : Nat) (pv : Value) (P : List H8) (hl : old.length = 32) (hn : n ≤ 65536) (hp : RdH w pv P) (hg : Gl256 w) (hf : GlFirst256 w) :
    Calls Tryd.prog 27 #[.int .i64 0, .int .i64 n, .agg (old.map U8).toArray, .agg ct, pv] w fun e w' => e = .returned (.bool (P.length == 0 && old == sha256 [])) ∧ Upd [] w w' := by
  obtain ⟨A, c, e, hc1, hc2⟩ := hp.isSlice
  obtain ⟨pn, hm⟩ : ∃ m, P.length = m := ⟨_, rfl⟩
  rw [hm] at e hc1
  rw [e, hm]
  have HSN : Hid (∀ W, Upd [] w W → Calls Tryd.prog 17 #[.slice none 0 0] W fun e w' => e = .returned (.agg ((sha256 []).map U8).toArray) ∧ Upd [] W w') := fun W hW => sum256 W _ [] (RdB.nil W) (by simp) (hg.upd hW (by simp)) (hf.upd hW (by simp))
  obtain ⟨N, hN⟩ : ∃ N, sha256 [] = N := ⟨_, rfl⟩
  have hNl : N.length = 32 := by rw [← hN]; exact sha256_length []
  rw [hN] at HSN ⊢
  have hq1 := fun W => eql_h32 old N hl hNl W
  have hsl0 := szrow hl
  have hgd := guard_h32
  obtain ⟨cl, hcl⟩ : ∃ c, (old.map U8).toArray = c := ⟨_, rfl⟩
  obtain ⟨cN, hcN⟩ : ∃ c, (N.map U8).toArray = c := ⟨_, rfl⟩
  obtain ⟨bb, hbb⟩ : ∃ b, (old == N) = b := ⟨_, rfl⟩
  rw [hcl] at hq1 hsl0 ⊢
  rw [hcN] at hq1 HSN
  rw [hbb] at hq1 ⊢
  have d1 : ¬ ((n : Int) > 65536) := by omega
  clear hp hg hf hN hNl hcl hcN hbb hl e hm
  by_cases h0 : pn = 0
  · subst h0
    go_enter Tryd.func27, Tryd.ntmps27
    go_wp2_with (with_reducible refine arm_box (by with_unfolding_all exact rfl) ?_)
    intro b7 w5 hb7 k7 hU5 hz5
    change w5.heap[b7]? = some (.cells cl 27 (0, 0)) at k7
    go_wp2_with (with_reducible refine arm_box (by with_unfolding_all exact rfl) ?_)
    intro b8 w9 hb8 k8 hU9 hz9
    have k79 := hU9.heap k7 (by simp)
    have hV9 := hU5.trans hU9
    have HQ7 : Hid (∀ W, Upd [] w9 W → ∃ t fr, W.heap[b7]? = some (.cells cl t fr)) := fun W hW => ⟨_, _, hW.heap k79 (by simp)⟩
    clear hb7 hz5 hb8 hz9 k7 hU5 hU9 k8 k79
    go_upto_region 4 with (fail)
    refine wp_region_quiet_all (Upd [] w9) (by kernel_rfl) (by kernel_rfl) (Upd.refl _ _).drew ?_
    repeat (first
      | (refine wpQuiet_val rfl (quiet_load_row 27 _ rfl b7 rfl _ HQ7.out Tryd.underlying27 rfl hsl0) ?_)
      | (refine wpQuiet_step (fun K hK => ?_)
         go_simp
         first
           | (refine ⟨_, fun _ _ => rfl, hK _ ?_⟩; clear hK K)
           | ((with_reducible refine ⟨_, fun w2 hw2 => (HSN.out w2 (hV9.trans hw2)).mono (fun e w' h => ⟨h.1, hw2.trans h.2⟩), hK _ ?_⟩); clear hK K)
           | (refine hK _ ?_; clear hK K)))
    refine wpQuiet_nil ?_
    intro w10 hU10
    go_wp2_with (fail)
    go_ret
    exact ⟨ret_eq (by cases bb <;> rfl), hV9.trans hU10⟩
  · have h0' : ¬ ((pn : Int) = 0) := by omega
    have hb0 : (pn == 0) = false := by simp [h0]
    rw [hb0]
    have hb1 : ((pn : Int) == 0) = false := by simp; omega
    go_enter Tryd.func27, Tryd.ntmps27
    go_wp2_with (with_reducible refine arm_box (by with_unfolding_all exact rfl) ?_)
    intro b7 w5 hb7 k7 hU5 hz5
    go_wp2_with (with_reducible refine arm_box (by with_unfolding_all exact rfl) ?_)
    intro b8 w9 hb8 k8 hU9 hz9
    have hV9 := hU5.trans hU9
    clear hb7 hz5 hb8 hz9 k7 hU5 hU9 k8
    go_upto_region 4 with (fail)
    refine wp_region_quiet_all (Upd [] w9) (by kernel_rfl) (by kernel_rfl) (Upd.refl _ _).drew ?_
    repeat (first
      | (refine wpQuiet_step (fun K hK => ?_)
         go_simp
         first
           | (refine ⟨_, fun _ _ => rfl, hK _ ?_⟩; clear hK K)
           | (refine hK _ ?_; clear hK K)))
    refine wpQuiet_nil ?_
    intro w10 hU10
    go_wp2_with (fail)
    go_ret
    exact ⟨rfl, hV9.trans hU10⟩
end Go.Proofs.YtdfoffheolbokaaDoor
