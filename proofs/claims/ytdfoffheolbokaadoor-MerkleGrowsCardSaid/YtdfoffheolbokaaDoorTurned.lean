/-
  turned: a list of hashes, turned round in new memory.
-/
import Derived.Test.YtdfoffheolbokaaDoorRows16
namespace Go.Proofs.YtdfoffheolbokaaDoor
open Go Go.RowKit Go.Proofs
/-- the new list behind q hashes: zeros ahead, the first q turned round behind them -/
def turnTo (ls : List H8) (q : Nat) : List H8 := List.replicate (ls.length - q) (List.replicate 32 0) ++ (ls.take q).reverse
theorem turnTo_length (ls : List H8) (q : Nat) (h : q ≤ ls.length) : (turnTo ls q).length = ls.length := by simp [turnTo]; omega
theorem turnTo_step (ls : List H8) (q : Nat) (h : q < ls.length) : (turnTo ls q).set (ls.length - 1 - q) ls[q] = turnTo ls (q + 1) := by
  unfold turnTo
  rw [List.set_append_left _ _ (by simp; omega), List.take_succ_eq_append_getElem h, List.reverse_append, show ls.length - q = (ls.length - (q + 1)) + 1 by omega, List.replicate_succ', List.set_append_right _ _ (by simp; omega)]
  simp
  rw [show ls.length - 1 - q - (ls.length - (q + 1)) = 0 by omega]
  simp
set_option maxRecDepth 100000 in
set_option maxHeartbeats 3200000 in
theorem turned_ (w : World) (v : Value) (ls : List H8) (hv : RdH w v ls) (hn : ls.length ≤ 100000) :
    Calls Tryd.prog 38 #[v] w fun e w' => ∃ u, e = .returned u ∧ OwnH w' w.heap.size u ls.reverse ∧ Upd [] w w' := by
  obtain ⟨A, c, e, hc1, hc2⟩ := hv.isSlice
  obtain ⟨n, hnn⟩ : ∃ n, ls.length = n := ⟨_, rfl⟩
  rw [hnn] at e hn
  rw [e] at hv ⊢
  have HV := Lib.hid hv
  have HNN := Lib.hid hnn
  obtain ⟨B, hB⟩ : ∃ B, w.heap.size = B := ⟨_, rfl⟩
  rw [hB]
  have HB := Lib.hid hB
  clear hv hnn e hB
  go_enter Tryd.func38, Tryd.ntmps38
  go_wp2_with (with_reducible refine makeH (by with_unfolding_all exact rfl) (by with_unfolding_all exact rfl) (by omega) ?_)
  intro g w1 hg hO hU
  have hgB : B ≤ g := by have := HB.out; omega
  have hO0 : OwnH w1 g (.slice (some ⟨g, 0, none⟩) n n) (turnTo ls 0) := by
    have : turnTo ls 0 = List.replicate n (List.replicate 32 0) := by simp [turnTo, HNN.out]
    rwa [this]
  clear hg hO
  go_wp2_with (fail)
  go_loopw [11] (fun i wr => ∃ q : Nat, q ≤ n ∧ i = .int .i64 q ∧ OwnH wr g (.slice (some ⟨g, 0, none⟩) n n) (turnTo ls q) ∧ Upd [] w wr) (fun i _ => n - (intOf i).toNat)
  case atStart => exact ⟨0, by omega, rfl, hO0, hU⟩
  case round =>
    obtain ⟨q, hq, rfl, hO, hU⟩ := hrel
    have HO := Lib.hid hO
    have HU := Lib.hid hU
    obtain ⟨wo, rfl⟩ : ∃ wo : World, wo = wr := ⟨_, rfl⟩
    clear hO hU
    by_cases h : q < n
    · have h' : (q : Int) < (n : Int) := by omega
      have hql : q < ls.length := by rw [HNN.out]; exact h
      obtain ⟨g0, p0, c0, e0, _, _, _⟩ := HV.out.at (by omega)
      injection e0 with e1 e2 e3
      have hv' := HV.out.upd0 HU.out
      rw [e1] at hv' ⊢
      have hel := hv'.elem q hql
      have hxl : (ls[q]'hql).length = 32 := hv'.1 _ (List.getElem_mem hql)
      obtain ⟨x, hx⟩ : ∃ x, ls[q]'hql = x := ⟨_, rfl⟩
      rw [hx] at hel hxl
      have hs := szrow hxl
      have ho := sameZ hxl
      have ha := oneAll x
      have hsl := szlist hxl
      have hkl : n - 1 - q < (turnTo ls q).length := by rw [turnTo_length _ _ (by omega), HNN.out]; omega
      have hst : (turnTo ls q).set (n - 1 - q) x = turnTo ls (q + 1) := by rw [← hx, ← HNN.out]; exact turnTo_step ls q hql
      obtain ⟨lx, hlx⟩ : ∃ l, x.map U8 = l := ⟨_, rfl⟩
      rw [hlx] at hel hs ho ha hsl
      obtain ⟨k, hk⟩ : ∃ k, n - 1 - q = k := ⟨_, rfl⟩
      rw [hk] at hst hkl
      have hk' : (n : Int) - 1 - (q : Int) = (k : Int) := by omega
      have hkn : k < n := by omega
      have HEL := Lib.hid hel
      have HLX := Lib.hid hlx
      have HXL := Lib.hid hxl
      have HST := Lib.hid hst
      have HKL := Lib.hid hkl
      have hlsz : lx.length = 32 := by rw [← hlx]; simp [hxl]
      clear hx hxl hlx hv' hst hkl hel hk e1 e2 e3
      go_wp2_with (first
        | (with_reducible refine arm_load_mid (k := p0 + q * 32) (by with_unfolding_all exact rfl) HEL.out Tryd.underlying27 rfl hsl ?_)
        | (with_reducible refine arm_alloc (zero_h32 _) ?_))
      intro b5 w5 hb5 k5 hU5 hz5
      change w5.heap[b5]? = some (.cells (zrow8 32) 27 (0, 0)) at k5
      go_wp2_with (with_reducible refine arm_store (by with_unfolding_all exact rfl) (by with_unfolding_all exact rfl) k5 hs ho ha ?_)
      intro w6 k6 hX6 hz6
      have hT6 := hU5.fresh hb5 hX6
      have hO6 := HO.out.upd0 hT6
      have hset := hO6.set k HKL.out x HXL.out
      rw [HST.out, HLX.out] at hset
      have hth : w6.there g (k * 32) lx.toArray.size := by simpa [hlsz] using hset.1
      have HSET := Lib.hid hset.2
      clear hb5 k5 hU5 hz5 hX6 hz6 hO6 hset
      go_wp2_with (first
        | (with_reducible refine arm_load (by with_unfolding_all exact rfl) k6 Tryd.underlying27 (by with_unfolding_all exact rfl) hs ?_)
        | (with_reducible refine arm_store_mid (k := k * 32) (by with_unfolding_all exact rfl) (by with_unfolding_all exact rfl) hth hs ha ?_))
      exact ⟨⟨q + 1, by omega, by go_num, HSET.out, (HU.out.trans hT6).setCells g _ _ (fun hgl => by have := HB.out; omega)⟩, by simp [intOf]; omega⟩
    · obtain rfl : q = n := by omega
      have hall : turnTo ls q = ls.reverse := by simp [turnTo, HNN.out, List.take_of_length_le (Nat.le_of_eq HNN.out)]
      have HALL := Lib.hid hall
      have h' : ¬ ((q : Int) < (q : Int)) := by omega
      clear hall
      go_wp2_with (fail)
      go_ret
      refine ⟨_, rfl, ?_, HU.out⟩
      have := HO.out
      rw [HALL.out] at this
      exact this.mono (fun k hk => by simp only [Value.ownBlock, Option.some.injEq] at hk; omega)
end Go.Proofs.YtdfoffheolbokaaDoor
