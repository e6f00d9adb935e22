/-
  ends: what pairs lead up to.
-/
import Derived.Test.YtdfoffheolbokaaDoorPairs
namespace Go.Proofs.YtdfoffheolbokaaDoor
open Go Go.RowKit Go.Proofs
def endsOf (leaf : H8) (ps : List (H8 × H8)) : H8 := if h : 0 < ps.length then nodeH (ps[ps.length - 1]'(by omega)).1 (ps[ps.length - 1]'(by omega)).2 else leaf
theorem endsOf_pairs (leaf : H8) (s : List Bool) (q : List H8) (e : s.length = q.length) : endsOf leaf (pairsOf leaf s q) = climbH leaf s q := by
  have hl := pairsOf_length s q leaf e
  unfold endsOf
  by_cases h : 0 < (pairsOf leaf s q).length
  · rw [dif_pos h]
    obtain ⟨k, hk⟩ : ∃ k, q.length = k + 1 := ⟨q.length - 1, by omega⟩
    have h1 := pairsOf_get leaf s q k (by omega) (by omega) e
    have h2 := climbH_take leaf s q k (by omega) (by omega)
    rw [List.take_of_length_le (by omega), List.take_of_length_le (by omega)] at h2
    have h3 : (pairsOf leaf s q)[(pairsOf leaf s q).length - 1]? = (pairsOf leaf s q)[k]? := by rw [hl, hk]; rfl
    rw [h1, List.getElem?_eq_getElem (by omega)] at h3
    rw [Option.some.inj h3, h2]
    cases hb : s[k]'(by omega) <;> simp [stepH]
  · rw [dif_neg h]
    have hq : q = [] := List.eq_nil_of_length_eq_zero (by omega)
    have hs : s = [] := List.eq_nil_of_length_eq_zero (by omega)
    subst hq hs
    rfl
set_option maxRecDepth 100000 in
set_option maxHeartbeats 3200000 in
theorem ends_ (w : World) (B : Nat) (leaf : H8) (v : Value) (ps : List (H8 × H8)) (hl : leaf.length = 32) (hp : OwnP w B v ps) (hpl : ps.length ≤ 1000000) (hg : Gl256 w) (hf : GlFirst256 w) :
    Calls Tryd.prog 23 #[.agg (leaf.map U8).toArray, v] w fun e w' => e = .returned (.agg ((endsOf leaf ps).map U8).toArray) ∧ Upd [] w w' := by
  obtain ⟨A, c, e⟩ := hp.isSlice
  obtain ⟨n, hn⟩ : ∃ n, ps.length = n := ⟨_, rfl⟩
  rw [hn] at e hpl
  by_cases h0 : n = 0
  · subst h0
    have he : endsOf leaf ps = leaf := by unfold endsOf; rw [dif_neg (by omega)]
    rw [he, e]
    have hs := szrow hl
    have ho := sameZ hl
    have ha := oneAll leaf
    obtain ⟨cl, hcl⟩ : ∃ c, (leaf.map U8).toArray = c := ⟨_, rfl⟩
    rw [hcl] at hs ho ha ⊢
    clear hp hg hf e he hn hcl
    go_enter Tryd.func23, Tryd.ntmps23
    go_wp2_with (with_reducible refine arm_box (by with_unfolding_all exact rfl) ?_)
    intro b2 w2 hb2 k2 hU2 hz2
    change w2.heap[b2]? = some (.cells cl 27 (0, 0)) at k2
    go_wp2_with (with_reducible refine arm_alloc (zero_h32 _) ?_)
    intro b4 w4 hb4 k4 hU4 hz4
    change w4.heap[b4]? = some (.cells (zrow8 32) 27 (0, 0)) at k4
    have k24 := hU4.heap k2 (by simp)
    have hV4 := hU2.trans hU4
    have hl4 : w.heap.size ≤ b4 := by have := hU2.size; omega
    go_wp2_with (first
      | (with_reducible refine arm_load (by with_unfolding_all exact rfl) k24 Tryd.underlying27 (by with_unfolding_all exact rfl) hs ?_)
      | (with_reducible refine arm_store (by with_unfolding_all exact rfl) (by with_unfolding_all exact rfl) k4 hs ho ha ?_))
    intro w5 k5 hX5 hz5
    go_wp2_with (fail)
    refine bodyPost_ret (v := .agg cl) (results_cell_row rfl _ _ b4 27 _ (0, 0) _ rfl k5 Tryd.underlying27 rfl hs) rfl ⟨rfl, ?_⟩
    exact hV4.trans' hX5 (fun i hm hi => by simp at hm; omega)
  · obtain ⟨r, hr⟩ : ∃ r, n - 1 = r := ⟨_, rfl⟩
    have hrn : r < n := by omega
    have hr' : (n : Int) - 1 = (r : Int) := by omega
    have hwr : IntKind.i64.wrap (r : Int) = (r : Int) := by rw [IntKind.wrap_i64]; omega
    have hrp : r < ps.length := by omega
    have he : endsOf leaf ps = nodeH ps[r].1 ps[r].2 := by
      unfold endsOf; rw [dif_pos (by omega)]; simp only [hn, hr]
    obtain ⟨g, cap, hgs, _, hgl, _⟩ := hp.at (by omega)
    rw [hn] at hgs
    rw [hgs] at hp ⊢
    obtain ⟨l1, l2, r1, r2⟩ := hp.elem r hrp
    obtain ⟨x, hx⟩ : ∃ x, ps[r].1 = x := ⟨_, rfl⟩
    obtain ⟨y, hy⟩ : ∃ x, ps[r].2 = x := ⟨_, rfl⟩
    rw [hx] at l1 r1 he
    rw [hy] at l2 r2 he
    have hHl : (nodeH x y).length = 32 := nodeH_length x y
    have HN : Hid (∀ W, Upd [] w W → Calls Tryd.prog 20 #[.agg (x.map U8).toArray, .agg (y.map U8).toArray] W fun e w' => e = .returned (.agg ((nodeH x y).map U8).toArray) ∧ Upd [] W w') := fun W hW => node_ W x y l1 l2 (hg.upd hW (by simp)) (hf.upd hW (by simp))
    rw [he]
    have hs := szrow hHl
    have ho := sameZ hHl
    have ha := oneAll (nodeH x y)
    have hsx := szlist l1
    have hsy := szlist l2
    obtain ⟨lx, hlx⟩ : ∃ l, x.map U8 = l := ⟨_, rfl⟩
    obtain ⟨ly, hly⟩ : ∃ l, y.map U8 = l := ⟨_, rfl⟩
    obtain ⟨cH, hcH⟩ : ∃ c, ((nodeH x y).map U8).toArray = c := ⟨_, rfl⟩
    obtain ⟨cl, hcl⟩ : ∃ c, (leaf.map U8).toArray = c := ⟨_, rfl⟩
    rw [hlx] at r1 hsx HN
    rw [hly] at r2 hsy HN
    rw [hcH] at hs ho ha HN ⊢
    rw [hcl]
    have h0' : ¬ ((n : Int) = 0) := by omega
    have R1 := Lib.hid r1
    have R2 := Lib.hid r2
    clear hp hg hf e he hn hcl hlx hly hcH r1 r2 hx hy l1 l2 hHl hgs hr
    go_enter Tryd.func23, Tryd.ntmps23
    go_wp2_with (with_reducible refine arm_box (by with_unfolding_all exact rfl) ?_)
    intro b2 w2 hb2 k2 hU2 hz2
    go_wp2_with (with_reducible refine arm_alloc (zero_h32 _) ?_)
    intro b4 w4 hb4 k4 hU4 hz4
    change w4.heap[b4]? = some (.cells (zrow8 32) 27 (0, 0)) at k4
    have hV4 := hU2.trans hU4
    have hl4 : w.heap.size ≤ b4 := by have := hU2.size; omega
    have HE1 : Hid (∀ W, Upd [] w4 W → W.rangeAt g (r * 64) lx) := fun W hW j v hj => hW.cell (hV4.cell (R1.out j v hj) (by simp)) (by simp)
    have HE2 : Hid (∀ W, Upd [] w4 W → W.rangeAt g (r * 64 + 32) ly) := fun W hW j v hj => hW.cell (hV4.cell (R2.out j v hj) (by simp)) (by simp)
    clear hb2 k2 hU2 hz2 hb4 hU4 hz4
    go_wp2_with (fail)
    refine wp_region_quiet_tail 15 (Upd [] w4) (by kernel_rfl) (by kernel_rfl) (Upd.refl _ _).drew ?_
    simp only [List.take_succ_cons, List.take_zero, List.drop_succ_cons, List.drop_zero]
    repeat (first
      | (refine wpQuiet_val rfl (quiet_load_mid 27 _ rfl g (r * 64) rfl _ HE1.out Tryd.underlying27 rfl hsx) ?_)
      | (refine wpQuiet_val rfl (quiet_load_mid 27 _ rfl g (r * 64 + 32) rfl _ HE2.out Tryd.underlying27 rfl hsy) ?_)
      | (refine wpQuiet_step (fun K hK => ?_)
         go_simp
         first
           | (refine ⟨_, fun _ _ => rfl, hK _ ?_⟩; clear hK K)
           | ((with_reducible refine ⟨_, fun w2 hw2 => (HN.out w2 (hV4.trans hw2)).mono (fun e w' h => ⟨h.1, hw2.trans h.2⟩), hK _ ?_⟩); clear hK K)
           | (refine hK _ ?_; clear hK K)))
    refine wpQuiet_nil ?_
    intro w5 hU5
    have k5 := hU5.heap k4 (by simp)
    go_wp2_with (with_reducible refine arm_store (by with_unfolding_all exact rfl) (by with_unfolding_all exact rfl) k5 hs ho ha ?_)
    intro w6 k6 hX6 hz6
    go_wp2_with (fail)
    refine bodyPost_ret (v := .agg cH) (results_cell_row rfl _ _ b4 27 _ (0, 0) _ rfl k6 Tryd.underlying27 rfl hs) rfl ⟨rfl, ?_⟩
    exact (hV4.trans hU5).trans' hX6 (fun i hm hi => by simp at hm; omega)
end Go.Proofs.YtdfoffheolbokaaDoor
