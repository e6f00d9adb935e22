/-
  The law Sha256Digests: every call on up to four Digests in every order.
-/
import Derived.Test.YtghdininkolanaaDoorDStep256
namespace Go.Proofs.YtghdininkolanaaDoor
open Go Go.RowKit Go.Proofs
theorem zero_h32' (w : World) : (zeroValue 62).run Tryd.prog w = .ok (.agg (zrow8 32)) w := by kernel_rfl
theorem size_hash32 : (Tryd.prog.info? 62).map (·.size) = some 32 := by kernel_rfl
set_option maxRecDepth 100000 in
set_option maxHeartbeats 6400000 in
theorem asked02 (w : World) (D ca : Nat) (Aa : Option Addr) (hv : Value) (m : List (BitVec 8)) (hD : DigOf256 w D m) (hR : RdB w (.slice Aa m.length ca) m) (hm : m.length ≤ 4398046511104) (hg : Gl256 w) :
    Calls Tryd.prog 8 #[.agg #[.pointer (some ⟨D, 0, none⟩), .slice Aa m.length ca, hv]] w fun e w' => e = .returned (.bool true) ∧ Upd [] w w' := by
  obtain ⟨H, hH⟩ : ∃ H, sha256 m = H := ⟨_, rfl⟩
  have hHl : H.length = 32 := by rw [← hH]; exact sha256_length _
  have HS1 : Hid (∀ W, Upd [] w W → Calls Tryd.prog 21 #[.pointer (some ⟨D, 0, none⟩)] W fun e w' => e = .returned (.agg (H.map U8).toArray) ∧ Upd [] W w') := fun W hW => by
    rw [← hH]; exact digsum256 W D m (hD.upd hW (by simp)) (by omega) (hg.upd hW (by simp))
  have HS2 : Hid (∀ W, Upd [] w W → Calls Tryd.prog 22 #[.slice Aa m.length ca] W fun e w' => e = .returned (.agg (H.map U8).toArray) ∧ Upd [] W w') := fun W hW => by
    rw [← hH]; exact refsum256 W _ m (hR.upd0 hW) (by omega)
  have HS3 : Hid (∀ W, Upd [] w W → Calls Tryd.prog 23 #[.pointer (some ⟨D, 0, none⟩)] W fun e w' => e = .returned (U64 (BitVec.ofInt 64 (m.length : Int))) ∧ Upd [] W w') := fun W hW => by
    obtain ⟨s, r, hd, _⟩ := hD.upd hW (by simp)
    rw [ofInt_nat]
    exact (len256 W D s r _ hd).mono (fun e w' h => ⟨h.1, by rw [← h.2]; exact Upd.refl _ _⟩)
  have hq := eql_h32 H H hHl hHl
  rw [show (H == H) = true by simp] at hq
  have hgd := guard_h32
  have hsH : (Tryd.prog.info? 62).map (·.size) = some (H.map U8).toArray.size := by rw [size_hash32]; simp [hHl]
  have hoH : (zrow8 32).size = (H.map U8).toArray.size := by simp [zrow8_size, hHl]
  have haH : (H.map U8).toArray.all (·.oneCell') = true := by simp
  obtain ⟨cH, hcH⟩ : ∃ c, (H.map U8).toArray = c := ⟨_, rfl⟩
  rw [hcH] at HS1 HS2 hq hsH hoH haH
  clear hcH hHl hH hD hR hm hg
  go_enter Tryd.func8, Tryd.ntmps8
  go_wp2_with (with_reducible refine arm_box (by with_unfolding_all exact rfl) ?_)
  intro b1 w1 hb1 k1 hU1 hz1
  change w1.heap[b1]? = some (.cells #[.pointer (some ⟨D, 0, none⟩), .slice Aa m.length ca, hv] 27 (0, 0)) at k1
  have c1 : w1.cell? ⟨b1, 0, none⟩ = some (.pointer (some ⟨D, 0, none⟩)) := by rw [cell_of_row _ _ _ _ _ _ k1]; rfl
  clear hb1 hz1
  go_wp2_with (fail)
  with_reducible refine (HS1.out _ hU1).mono ?_
  rintro e w2 ⟨rfl, hU2⟩
  have k2 := hU2.heap k1 (by simp)
  have hV2 := hU1.trans hU2
  clear k1 hU1 hU2 c1
  go_wp2_with (with_reducible refine arm_alloc (zero_h32' _) ?_)
  intro b3 w3 hb3 k3 hU3 hz3
  change w3.heap[b3]? = some (.cells (zrow8 32) 62 (0, 0)) at k3
  go_wp2_with (with_reducible refine arm_store (by with_unfolding_all exact rfl) (by with_unfolding_all exact rfl) k3 hsH hoH haH ?_)
  intro w4 k4 hX4 hz4
  have hT4 := hU3.fresh hb3 hX4
  have k14 := hT4.heap k2 (by simp)
  have hV4 := hV2.trans hT4
  clear hb3 k3 hU3 hz3 hX4 hz4 hT4 k2 hV2
  have HQ0 : Hid (∀ W, Upd [] w4 W → W.cell? ⟨b1, 0, none⟩ = some (.pointer (some ⟨D, 0, none⟩))) := fun W hW => by
    have h' := hW.heap k14 (by simp)
    rw [cell_of_row _ _ _ _ _ _ h']; rfl
  have HQ1 : Hid (∀ W, Upd [] w4 W → W.cell? ⟨b1, 1, none⟩ = some (.slice Aa m.length ca)) := fun W hW => by
    have h' := hW.heap k14 (by simp)
    rw [cell_of_row _ _ _ _ _ _ h']; rfl
  have HQ3 : Hid (∀ W, Upd [] w4 W → ∃ t fr, W.heap[b3]? = some (.cells cH t fr)) := fun W hW => ⟨_, _, hW.heap k4 (by simp)⟩
  have HR1 : Hid (∀ W, Upd [] w4 W → Calls Tryd.prog 22 #[.slice Aa m.length ca] W fun e w' => e = .returned (.agg cH) ∧ Upd [] W w') := fun W hW => HS2.out W (hV4.trans hW)
  have HR2 : Hid (∀ W, Upd [] w4 W → Calls Tryd.prog 23 #[.pointer (some ⟨D, 0, none⟩)] W fun e w' => e = .returned (U64 (BitVec.ofInt 64 (m.length : Int))) ∧ Upd [] W w') := fun W hW => HS3.out W (hV4.trans hW)
  clear k14 k4 HS1 HS2 HS3 hoH haH
  go_upto_region 2 with (fail)
  try go_simp
  refine wp_region_quiet_all (Upd [] w4) (by kernel_rfl) (by kernel_rfl) (Upd.refl _ _).drew ?_
  repeat (first
    | go_big_quiet_skip
    | (refine wpQuiet_valK rfl (quiet_load_row 62 _ rfl b3 rfl _ HQ3.out Tryd.underlying62 rfl hsH) (fun K hK => ?_); go_simp; refine hK _ ?_; clear hK K)
    | (refine wpQuiet_valK rfl (quiet_of_yields (yields_cell (p := ⟨b1, 0, none⟩) rfl HQ0.out Tryd.underlying23 rfl)) (fun K hK => ?_); go_simp; refine hK _ ?_; clear hK K)
    | (refine wpQuiet_valK rfl (quiet_of_yields (yields_cell (p := ⟨b1, 1, none⟩) rfl HQ1.out Tryd.underlying25 rfl)) (fun K hK => ?_); go_simp; refine hK _ ?_; clear hK K)
    | go_big_quiet_step ((intro hw2; first
      | rfl
      | ((with_reducible refine (HR1.out _ hw2).mono ?_); exact fun e w' h => ⟨h.1, hw2.trans h.2⟩)
      | ((with_reducible refine (HR2.out _ hw2).mono ?_); exact fun e w' h => ⟨h.1, hw2.trans h.2⟩)
      )))
  refine wpQuiet_nil ?_
  intro w5 hU5
  go_wp2_with (fail)
  go_ret
  exact ⟨rfl, hV4.trans hU5⟩
end Go.Proofs.YtghdininkolanaaDoor
