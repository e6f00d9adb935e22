/-
  The document's Values: all values of a chain, by their index.
-/
import Derived.Test.YtaphbkkklapdaaaDoorHashRow
import Derived.Test.YtaphbkkklapdaaaDoorWS
namespace Go.Proofs.YtaphbkkklapdaaaDoor
open Go Go.RowKit Go.Proofs
set_option maxRecDepth 100000 in
set_option maxHeartbeats 6400000 in
theorem refvalues_ (w : World) (seed : List (BitVec 8)) (n : Nat) (hsd : seed.length = 32) (hn : n ≤ 4096) :
    Calls Tryd.prog 7 #[.agg (seed.map U8).toArray, .int .i64 n] w fun e w' => ∃ (g c : Nat) (ls : List H8), e = .returned (.slice (some ⟨g, 0, none⟩) (n + 1) c) ∧ ls.length = n + 1 ∧ (∀ i (h : i < ls.length), ls[i] = steps seed (n - i)) ∧ RdH w' (.slice (some ⟨g, 0, none⟩) (n + 1) c) ls ∧ w.heap.size ≤ g ∧ Upd [] w w' := by
  have hss := size_of32 hsd
  have hos := same_size32 hsd
  have has := one_of32 seed
  have HSD := Lib.hid hsd
  obtain ⟨cs, hcs⟩ : ∃ c, (seed.map U8).toArray = c := ⟨_, rfl⟩
  have HCS := Lib.hid hcs
  rw [hcs] at hss hos has ⊢
  have hni : (n : Int) ≤ 4096 := by omega
  have HN : Hid (n ≤ 4096) := hn
  clear hcs hsd
  go_enter Tryd.func7, Tryd.ntmps7
  go_wp2_with (first
    | (with_reducible refine arm_box (by with_unfolding_all exact rfl) ?_))
  intro b2 w1 hb2 k1 hU1 hz1
  change w1.heap[b2]? = some (.cells cs 23 (0, 0)) at k1
  clear hb2 hz1
  go_wp2_with (refine makeH (n := n + 1) (by with_unfolding_all exact rfl) (by with_unfolding_all exact rfl) (by have := HN.out; omega) ?_)
  intro g w2 hg hO2 hU2
  have k2 := hU2.heap k1 (by simp)
  have HGB : Hid (w.heap.size ≤ g ∧ b2 < g) := ⟨by have := hU1.size; omega, by have := lt_of_heap k1; omega⟩
  have hV2 := hU1.trans hU2
  have HO2 := Lib.hid hO2
  clear k1 hU1 hU2 hg hO2
  go_wp2_with (first
    | (with_reducible refine arm_load (by with_unfolding_all exact rfl) k2 Tryd.underlying23 (by with_unfolding_all exact rfl) hss ?_)
    | (with_reducible refine arm_alloc (zero_h32 _) ?_))
  intro b6 w3 hb6 k3 hU3 hz3
  change w3.heap[b6]? = some (.cells (zrow8 32) 23 (0, 0)) at k3
  go_wp2_with (with_reducible refine arm_store (by with_unfolding_all exact rfl) (by with_unfolding_all exact rfl) k3 hss hos has ?_)
  intro w4 k4 hX4 hz4
  have hT4 := hU3.fresh hb6 hX4
  have HO4 := Lib.hid (HO2.out.upd0 hT4)
  have HV4 := Lib.hid (hV2.trans hT4)
  have HG6 : Hid (g ≠ b6 ∧ w.heap.size ≤ b6) := by
    have h1 := (HO2.out.lt g rfl).2
    have h2 := hV2.size
    exact ⟨by omega, by omega⟩
  rw [← HCS.out] at k4
  have K4 := Lib.hid k4
  clear hb6 k3 hU3 hz3 k4 hX4 hz4 hT4 k2 hV2 HO2 hss hos has
  go_upto_region 4 with (fail)
  try go_simp
  go_loopw [7] (fun iv wr => ∃ (j : Nat) (ls : List H8), j ≤ n + 1 ∧ iv = .int .i64 ((n : Int) - j) ∧ ls.length = n + 1 ∧ (∀ i (h : i < ls.length), n < i + j → ls[i] = steps seed (n - i)) ∧ OwnH wr g (.slice (some ⟨g, 0, none⟩) (n + 1) (n + 1)) ls ∧ wr.heap[b6]? = some (.cells ((steps seed j).map U8).toArray 23 (0, 0)) ∧ Upd [] w wr) (fun iv _ => (intOf iv + 1).toNat)
  case atStart => exact ⟨0, _, by omega, by go_num, by simp, fun i h hi => by simp at h; omega, HO4.out, K4.out, HV4.out⟩
  case round =>
    obtain ⟨j, ls, hj, rfl, hll, hel, hO, k6, hV⟩ := hrel
    obtain ⟨wo, rfl⟩ : ∃ wo : World, wo = wr := ⟨_, rfl⟩
    have HOo := Lib.hid hO
    have HEL := Lib.hid hel
    have HLL := Lib.hid hll
    have HVo := Lib.hid hV
    have HJ : Hid (j ≤ n + 1) := hj
    clear hel hll hV
    by_cases h : j ≤ n
    · obtain ⟨x, hx⟩ : ∃ x, n - j = x := ⟨_, rfl⟩
      have hxi : (n : Int) - (j : Int) = (x : Int) := by omega
      have hxn : (x : Int) < (n : Int) + 1 := by omega
      have hx0 : (0 : Int) ≤ (x : Int) := by omega
      rw [hxi]
      have hxl := steps_length seed HSD.out j
      have hsx := size_of32 hxl
      have hax := one_of32 (steps seed j)
      have hyl := steps_length seed HSD.out (j + 1)
      have hsy := size_of32 hyl
      have hay := one_of32 (steps seed (j + 1))
      have hxy : ((steps seed j).map U8).toArray.size = ((steps seed (j + 1)).map U8).toArray.size := by simp [hxl, hyl]
      obtain ⟨hth, hset⟩ := HOo.out.set x (by have := HLL.out; omega) (steps seed j) hxl
      have hth' : wo.there g (x * 32) ((steps seed j).map U8).toArray.size := by simpa [hxl] using hth
      have HSTP : Hid (∀ W, Calls Tryd.prog 17 #[.agg ((steps seed j).map U8).toArray] W fun e w' => e = .returned (.agg ((steps seed (j + 1)).map U8).toArray) ∧ Upd [] W w') := fun W => refstep W (steps seed j) hxl
      have hcl : ((steps seed j).map U8).toArray.toList = (steps seed j).map U8 := by simp
      obtain ⟨cx, hcx⟩ : ∃ c, ((steps seed j).map U8).toArray = c := ⟨_, rfl⟩
      rw [hcx] at hsx hax hxy hth' HSTP k6 hcl
      obtain ⟨cy, hcy⟩ : ∃ c, ((steps seed (j + 1)).map U8).toArray = c := ⟨_, rfl⟩
      rw [hcy] at hsy hay hxy HSTP
      have HCX := Lib.hid hcx
      have HCY := Lib.hid hcy
      have HSET := Lib.hid hset
      have HXX : Hid (n - j = x ∧ j ≤ n) := ⟨hx, h⟩
      have HCL := Lib.hid hcl
      clear hxl hyl hcx hcy hset hth hO hx h hxi hcl
      go_upto_region 6 with (fail)
      try go_simp
      go_wp2_with (first
        | (with_reducible refine arm_load (by with_unfolding_all exact rfl) k6 Tryd.underlying23 (by with_unfolding_all exact rfl) hsx ?_)
        | (with_reducible refine arm_store_mid (by with_unfolding_all exact rfl) (by with_unfolding_all exact rfl) hth' hsx hax ?_))
      intro w5 hw5
      rw [HCL.out] at hw5
      have HO5 : Hid (OwnH w5 g (.slice (some ⟨g, 0, none⟩) (n + 1) (n + 1)) (ls.set x (steps seed j))) := by rw [hw5]; exact HSET.out
      have hU5 : Upd [g] wo w5 := by rw [hw5]; exact (Upd.refl _ _).setCells g _ _ (by simp)
      have k65 := hU5.heap k6 (fun hm => HG6.out.1 (List.mem_singleton.1 hm).symm)
      have HV5 : Hid (Upd [] w w5) := HVo.out.trans' hU5 (fun i hm hl => by have := HGB.out; have := List.mem_singleton.1 hm; omega)
      clear hw5 hU5 k6 hth'
      go_wp2_with (with_reducible refine arm_load (by with_unfolding_all exact rfl) k65 Tryd.underlying23 (by with_unfolding_all exact rfl) hsx ?_)
      with_reducible refine (HSTP.out _).mono ?_
      rintro e w6 ⟨rfl, hU6⟩
      have k66 := hU6.heap k65 (by simp)
      go_wp2_with (with_reducible refine arm_store (by with_unfolding_all exact rfl) (by with_unfolding_all exact rfl) k66 hsy hxy hay ?_)
      intro w7 k67 hX7 hz7
      have hO7 := (HO5.out.upd0 hU6).upd hX7 (fun i hi hm => by have := HG6.out; have := List.mem_singleton.1 hm; simp [Value.ownBlock] at hi; omega)
      have hV7 : Upd [] w w7 := (HV5.out.trans hU6).trans' hX7 (fun i hm hl => by have := HG6.out; have := List.mem_singleton.1 hm; omega)
      rw [← HCY.out] at k67
      clear k65 k66 hU6 hX7 hz7
      go_wp2_with (fail)
      go_roundw
      case rel =>
        refine ⟨j + 1, ls.set x (steps seed j), by have := HXX.out; omega, ?_, by simpa using HLL.out, fun i hi hni => ?_, hO7, k67, hV7⟩
        · congr 1
          have := HXX.out
          omega
        · by_cases hix : i = x
          · subst hix
            rw [List.getElem_set_self]
            congr 1
            have := HXX.out
            omega
          · rw [List.getElem_set_ne (fun e => hix e.symm)]
            exact HEL.out i (by simpa using hi) (by have := HXX.out; omega)
      case measure => simp [intOf] <;> omega
    · have hjn : j = n + 1 := by omega
      subst hjn
      have hneg : (n : Int) - ((n + 1 : Nat) : Int) = -1 := by omega
      rw [hneg]
      go_wp2_with (fail)
      go_ret
      exact ⟨g, n + 1, ls, rfl, HLL.out, fun i hi => HEL.out i hi (by omega), by have := HOo.out.rd; exact this, HGB.out.1, HVo.out⟩
end Go.Proofs.YtaphbkkklapdaaaDoor
