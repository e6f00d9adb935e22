/-
  Covers, the document's and the program's; the law TableJoins.
-/
import Derived.Test.YtjoliagnhmfdiaaTJoin
namespace Go.Proofs.Ytjoliagnhmfdiaa
open Go Go.RowKit Go.Proofs
/-- what Join answers -/
def joined (a b : Ent) : Ent := if crtEq a.crt b.crt then joinE a b else zeroEnt
def jerr (a b : Ent) : Int := if crtEq a.crt b.crt then 0 else 171
def covers (a b : Ent) : Bool := crtEq a.crt b.crt && entEq (joinE a b) a
theorem joined_ok {a b : Ent} (ha : a.ok) (hb : b.ok) : (joined a b).ok := by
  unfold joined
  split
  · exact joinE_ok ha hb
  · exact zeroEnt_ok
theorem refjoin_ (w : World) (a b : Ent) (ha : a.ok) (hb : b.ok) : Calls Try.prog 6 #[.agg (entC a).toArray, .agg (entC b).toArray] w fun e w' => e = .returned (.tuple #[.agg (entC (joined a b)).toArray, .int .i64 (jerr a b)]) ∧ Upd [] w w' := by
  unfold joined jerr
  cases hc : crtEq a.crt b.crt with
  | true => exact refjoin_same w a b ha hb hc
  | false => exact refjoin_other w a b ha hb hc
theorem tjoin_ (w : World) (a b : Ent) (ha : a.ok) (hb : b.ok) : Calls Try.prog 5 #[.agg (entC a).toArray, .agg (entC b).toArray] w fun e w' => e = .returned (.tuple #[.agg (entC (joined a b)).toArray, .int .i64 (jerr a b)]) ∧ Upd [] w w' := by
  unfold joined jerr
  cases hc : crtEq a.crt b.crt with
  | true => exact tjoin_same w a b ha hb hc
  | false => exact tjoin_other w a b ha hb hc
set_option maxRecDepth 100000 in
set_option maxHeartbeats 6400000 in
theorem tcovers_ (w : World) (a b : Ent) (ha : a.ok) (hb : b.ok) : Calls Try.prog 7 #[.agg (entC a).toArray, .agg (entC b).toArray] w fun e w' => e = .returned (.bool (covers a b)) ∧ Upd [] w w' := by
  have hJ := joined_ok ha hb
  have hq := fun W => eql_ent W (joined a b) a hJ ha
  have hgd := guard_ent
  have HJN : Hid (∀ W, Calls Try.prog 5 #[.agg (entC a).toArray, .agg (entC b).toArray] W fun e w' => e = .returned (.tuple #[.agg (entC (joined a b)).toArray, .int .i64 (jerr a b)]) ∧ Upd [] W w') := fun W => tjoin_ W a b ha hb
  have hsa := szent ha
  have hsb := szent hb
  have hsJ := szent hJ
  have hoJ := samez zeroEnt_ok hJ
  have haJ := all_of_one (entC_one (joined a b))
  have HCV : Hid (covers a b = (crtEq a.crt b.crt && entEq (joinE a b) a)) := rfl
  have HJD : Hid (crtEq a.crt b.crt = true → entEq (joined a b) a = entEq (joinE a b) a) := fun h => by unfold joined; rw [if_pos h]
  have HJE : Hid (jerr a b = if crtEq a.crt b.crt then 0 else 171) := rfl
  obtain ⟨EQ, hEQ⟩ : ∃ x, entEq (joined a b) a = x := ⟨_, rfl⟩
  rw [hEQ] at hq HJD
  obtain ⟨ER, hER⟩ : ∃ x, jerr a b = x := ⟨_, rfl⟩
  rw [hER] at HJN HJE
  obtain ⟨ca, hca⟩ : ∃ l, (entC a).toArray = l := ⟨_, rfl⟩
  obtain ⟨cb, hcb⟩ : ∃ l, (entC b).toArray = l := ⟨_, rfl⟩
  obtain ⟨cJ, hcJ⟩ : ∃ l, (entC (joined a b)).toArray = l := ⟨_, rfl⟩
  obtain ⟨cz, hcz⟩ : ∃ l, (entC zeroEnt).toArray = l := ⟨_, rfl⟩
  have HZZ : Hid (∀ W, (zeroValue 29).run Try.prog W = .ok (.agg cz) W) := fun W => by rw [← hcz]; exact zero_ent W
  rw [hcz] at hoJ
  rw [hca] at HJN hq hsa
  rw [hcb] at HJN hsb
  rw [hcJ] at HJN hq hsJ hoJ haJ
  rw [hca, hcb]
  obtain ⟨CV, hCV⟩ : ∃ x, covers a b = x := ⟨_, rfl⟩
  rw [hCV] at HCV ⊢
  clear ha hb hJ hEQ hER hca hcb hcJ hcz hCV
  cases hc : crtEq a.crt b.crt with
  | true =>
    have h0 : ER = 0 := by rw [HJE.out, hc]; rfl
    have h1 : CV = EQ := by rw [HCV.out, hc, HJD.out hc]; rfl
    subst h0 h1
    clear hc
    go_enter Try.func7, Try.ntmps7
    go_wp2_with (with_reducible refine arm_box (by with_unfolding_all exact rfl) ?_)
    intro b2 w2 hb2 k2 hU2 hz2
    change w2.heap[b2]? = some (.cells ca 29 (0, 0)) at k2
    go_wp2_with (with_reducible refine arm_box (by with_unfolding_all exact rfl) ?_)
    intro b3 w3 hb3 k3 hU3 hz3
    change w3.heap[b3]? = some (.cells cb 29 (0, 0)) at k3
    have k2' := hU3.heap k2 (by simp)
    have hV3 := hU2.trans hU3
    clear k2 hb2 hU2 hz2 hb3 hU3 hz3
    go_wp2_with (first
      | (with_reducible refine arm_load (by with_unfolding_all exact rfl) k2' Try.underlying29 (by with_unfolding_all exact rfl) hsa ?_)
      | (with_reducible refine arm_load (by with_unfolding_all exact rfl) k3 Try.underlying29 (by with_unfolding_all exact rfl) hsb ?_))
    with_reducible refine (HJN.out _).mono ?_
    rintro e w4 ⟨rfl, hU4⟩
    have k24 := hU4.heap k2' (by simp)
    have hV4 := hV3.trans hU4
    clear k2' k3 hV3 hU4
    go_wp2_with (with_reducible refine arm_alloc (HZZ.out _) ?_)
    intro b5 w5 hb5 k5 hU5 hz5
    change w5.heap[b5]? = some (.cells cz 29 (0, 0)) at k5
    go_wp2_with (with_reducible refine arm_store (by with_unfolding_all exact rfl) (by with_unfolding_all exact rfl) k5 hsJ hoJ haJ ?_)
    intro w6 k6 hX6 hz6
    have hT6 := hU5.fresh hb5 hX6
    have k26 := hT6.heap k24 (by simp)
    have hV6 := hV4.trans hT6
    clear hb5 k5 hU5 hz5 hX6 hz6 hT6 k24 hV4
    go_wp2_with (first
      | (with_reducible refine arm_load_g (by with_unfolding_all exact rfl) (by with_unfolding_all exact rfl) k6 Try.underlying29 (by with_unfolding_all exact rfl) hsJ ?_)
      | (with_reducible refine arm_load_g (by with_unfolding_all exact rfl) (by with_unfolding_all exact rfl) k26 Try.underlying29 (by with_unfolding_all exact rfl) hsa ?_))
    go_ret
    exact ⟨rfl, hV6⟩
  | false =>
    have h0 : ER = 171 := by rw [HJE.out, hc]; rfl
    have h1 : CV = false := by rw [HCV.out, hc]; rfl
    subst h0 h1
    clear hc
    go_enter Try.func7, Try.ntmps7
    go_wp2_with (with_reducible refine arm_box (by with_unfolding_all exact rfl) ?_)
    intro b2 w2 hb2 k2 hU2 hz2
    change w2.heap[b2]? = some (.cells ca 29 (0, 0)) at k2
    go_wp2_with (with_reducible refine arm_box (by with_unfolding_all exact rfl) ?_)
    intro b3 w3 hb3 k3 hU3 hz3
    change w3.heap[b3]? = some (.cells cb 29 (0, 0)) at k3
    have k2' := hU3.heap k2 (by simp)
    have hV3 := hU2.trans hU3
    clear k2 hb2 hU2 hz2 hb3 hU3 hz3
    go_wp2_with (first
      | (with_reducible refine arm_load (by with_unfolding_all exact rfl) k2' Try.underlying29 (by with_unfolding_all exact rfl) hsa ?_)
      | (with_reducible refine arm_load (by with_unfolding_all exact rfl) k3 Try.underlying29 (by with_unfolding_all exact rfl) hsb ?_))
    with_reducible refine (HJN.out _).mono ?_
    rintro e w4 ⟨rfl, hU4⟩
    have k24 := hU4.heap k2' (by simp)
    have hV4 := hV3.trans hU4
    clear k2' k3 hV3 hU4
    go_wp2_with (with_reducible refine arm_alloc (HZZ.out _) ?_)
    intro b5 w5 hb5 k5 hU5 hz5
    change w5.heap[b5]? = some (.cells cz 29 (0, 0)) at k5
    go_wp2_with (with_reducible refine arm_store (by with_unfolding_all exact rfl) (by with_unfolding_all exact rfl) k5 hsJ hoJ haJ ?_)
    intro w6 k6 hX6 hz6
    have hT6 := hU5.fresh hb5 hX6
    have k26 := hT6.heap k24 (by simp)
    have hV6 := hV4.trans hT6
    clear hb5 k5 hU5 hz5 hX6 hz6 hT6 k24 hV4
    go_wp2_with (first
      | (with_reducible refine arm_load_g (by with_unfolding_all exact rfl) (by with_unfolding_all exact rfl) k6 Try.underlying29 (by with_unfolding_all exact rfl) hsJ ?_)
      | (with_reducible refine arm_load_g (by with_unfolding_all exact rfl) (by with_unfolding_all exact rfl) k26 Try.underlying29 (by with_unfolding_all exact rfl) hsa ?_))
    go_ret
    exact ⟨rfl, hV6⟩
set_option maxRecDepth 100000 in
set_option maxHeartbeats 6400000 in
theorem refcovers_ (w : World) (a b : Ent) (ha : a.ok) (hb : b.ok) : Calls Try.prog 8 #[.agg (entC a).toArray, .agg (entC b).toArray] w fun e w' => e = .returned (.bool (covers a b)) ∧ Upd [] w w' := by
  have hJ := joined_ok ha hb
  have hq := fun W => eql_ent W (joined a b) a hJ ha
  have hgd := guard_ent
  have HJN : Hid (∀ W, Calls Try.prog 6 #[.agg (entC a).toArray, .agg (entC b).toArray] W fun e w' => e = .returned (.tuple #[.agg (entC (joined a b)).toArray, .int .i64 (jerr a b)]) ∧ Upd [] W w') := fun W => refjoin_ W a b ha hb
  have hsa := szent ha
  have hsb := szent hb
  have hsJ := szent hJ
  have hoJ := samez zeroEnt_ok hJ
  have haJ := all_of_one (entC_one (joined a b))
  have HCV : Hid (covers a b = (crtEq a.crt b.crt && entEq (joinE a b) a)) := rfl
  have HJD : Hid (crtEq a.crt b.crt = true → entEq (joined a b) a = entEq (joinE a b) a) := fun h => by unfold joined; rw [if_pos h]
  have HJE : Hid (jerr a b = if crtEq a.crt b.crt then 0 else 171) := rfl
  obtain ⟨EQ, hEQ⟩ : ∃ x, entEq (joined a b) a = x := ⟨_, rfl⟩
  rw [hEQ] at hq HJD
  obtain ⟨ER, hER⟩ : ∃ x, jerr a b = x := ⟨_, rfl⟩
  rw [hER] at HJN HJE
  obtain ⟨ca, hca⟩ : ∃ l, (entC a).toArray = l := ⟨_, rfl⟩
  obtain ⟨cb, hcb⟩ : ∃ l, (entC b).toArray = l := ⟨_, rfl⟩
  obtain ⟨cJ, hcJ⟩ : ∃ l, (entC (joined a b)).toArray = l := ⟨_, rfl⟩
  obtain ⟨cz, hcz⟩ : ∃ l, (entC zeroEnt).toArray = l := ⟨_, rfl⟩
  have HZZ : Hid (∀ W, (zeroValue 29).run Try.prog W = .ok (.agg cz) W) := fun W => by rw [← hcz]; exact zero_ent W
  rw [hcz] at hoJ
  rw [hca] at HJN hq hsa
  rw [hcb] at HJN hsb
  rw [hcJ] at HJN hq hsJ hoJ haJ
  rw [hca, hcb]
  obtain ⟨CV, hCV⟩ : ∃ x, covers a b = x := ⟨_, rfl⟩
  rw [hCV] at HCV ⊢
  clear ha hb hJ hEQ hER hca hcb hcJ hcz hCV
  cases hc : crtEq a.crt b.crt with
  | true =>
    have h0 : ER = 0 := by rw [HJE.out, hc]; rfl
    have h1 : CV = EQ := by rw [HCV.out, hc, HJD.out hc]; rfl
    subst h0 h1
    clear hc
    go_enter Try.func8, Try.ntmps8
    go_wp2_with (with_reducible refine arm_box (by with_unfolding_all exact rfl) ?_)
    intro b2 w2 hb2 k2 hU2 hz2
    change w2.heap[b2]? = some (.cells ca 29 (0, 0)) at k2
    go_wp2_with (with_reducible refine arm_box (by with_unfolding_all exact rfl) ?_)
    intro b3 w3 hb3 k3 hU3 hz3
    change w3.heap[b3]? = some (.cells cb 29 (0, 0)) at k3
    have k2' := hU3.heap k2 (by simp)
    have hV3 := hU2.trans hU3
    clear k2 hb2 hU2 hz2 hb3 hU3 hz3
    go_wp2_with (first
      | (with_reducible refine arm_load (by with_unfolding_all exact rfl) k2' Try.underlying29 (by with_unfolding_all exact rfl) hsa ?_)
      | (with_reducible refine arm_load (by with_unfolding_all exact rfl) k3 Try.underlying29 (by with_unfolding_all exact rfl) hsb ?_))
    with_reducible refine (HJN.out _).mono ?_
    rintro e w4 ⟨rfl, hU4⟩
    have k24 := hU4.heap k2' (by simp)
    have hV4 := hV3.trans hU4
    clear k2' k3 hV3 hU4
    go_wp2_with (with_reducible refine arm_alloc (HZZ.out _) ?_)
    intro b5 w5 hb5 k5 hU5 hz5
    change w5.heap[b5]? = some (.cells cz 29 (0, 0)) at k5
    go_wp2_with (with_reducible refine arm_store (by with_unfolding_all exact rfl) (by with_unfolding_all exact rfl) k5 hsJ hoJ haJ ?_)
    intro w6 k6 hX6 hz6
    have hT6 := hU5.fresh hb5 hX6
    have k26 := hT6.heap k24 (by simp)
    have hV6 := hV4.trans hT6
    clear hb5 k5 hU5 hz5 hX6 hz6 hT6 k24 hV4
    go_wp2_with (first
      | (with_reducible refine arm_load_g (by with_unfolding_all exact rfl) (by with_unfolding_all exact rfl) k6 Try.underlying29 (by with_unfolding_all exact rfl) hsJ ?_)
      | (with_reducible refine arm_load_g (by with_unfolding_all exact rfl) (by with_unfolding_all exact rfl) k26 Try.underlying29 (by with_unfolding_all exact rfl) hsa ?_))
    go_ret
    exact ⟨rfl, hV6⟩
  | false =>
    have h0 : ER = 171 := by rw [HJE.out, hc]; rfl
    have h1 : CV = false := by rw [HCV.out, hc]; rfl
    subst h0 h1
    clear hc
    go_enter Try.func8, Try.ntmps8
    go_wp2_with (with_reducible refine arm_box (by with_unfolding_all exact rfl) ?_)
    intro b2 w2 hb2 k2 hU2 hz2
    change w2.heap[b2]? = some (.cells ca 29 (0, 0)) at k2
    go_wp2_with (with_reducible refine arm_box (by with_unfolding_all exact rfl) ?_)
    intro b3 w3 hb3 k3 hU3 hz3
    change w3.heap[b3]? = some (.cells cb 29 (0, 0)) at k3
    have k2' := hU3.heap k2 (by simp)
    have hV3 := hU2.trans hU3
    clear k2 hb2 hU2 hz2 hb3 hU3 hz3
    go_wp2_with (first
      | (with_reducible refine arm_load (by with_unfolding_all exact rfl) k2' Try.underlying29 (by with_unfolding_all exact rfl) hsa ?_)
      | (with_reducible refine arm_load (by with_unfolding_all exact rfl) k3 Try.underlying29 (by with_unfolding_all exact rfl) hsb ?_))
    with_reducible refine (HJN.out _).mono ?_
    rintro e w4 ⟨rfl, hU4⟩
    have k24 := hU4.heap k2' (by simp)
    have hV4 := hV3.trans hU4
    clear k2' k3 hV3 hU4
    go_wp2_with (with_reducible refine arm_alloc (HZZ.out _) ?_)
    intro b5 w5 hb5 k5 hU5 hz5
    change w5.heap[b5]? = some (.cells cz 29 (0, 0)) at k5
    go_wp2_with (with_reducible refine arm_store (by with_unfolding_all exact rfl) (by with_unfolding_all exact rfl) k5 hsJ hoJ haJ ?_)
    intro w6 k6 hX6 hz6
    have hT6 := hU5.fresh hb5 hX6
    have k26 := hT6.heap k24 (by simp)
    have hV6 := hV4.trans hT6
    clear hb5 k5 hU5 hz5 hX6 hz6 hT6 k24 hV4
    go_wp2_with (first
      | (with_reducible refine arm_load_g (by with_unfolding_all exact rfl) (by with_unfolding_all exact rfl) k6 Try.underlying29 (by with_unfolding_all exact rfl) hsJ ?_)
      | (with_reducible refine arm_load_g (by with_unfolding_all exact rfl) (by with_unfolding_all exact rfl) k26 Try.underlying29 (by with_unfolding_all exact rfl) hsa ?_))
    go_ret
    exact ⟨rfl, hV6⟩
end Go.Proofs.Ytjoliagnhmfdiaa
