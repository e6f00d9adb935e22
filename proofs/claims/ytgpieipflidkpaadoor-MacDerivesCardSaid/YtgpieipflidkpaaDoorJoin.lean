/-
  bits.Join: lists laid one behind the other, in new memory.
-/
import Derived.Test.YtgpieipflidkpaaDoorCopy
import Derived.Test.YtgpieipflidkpaaDoorArms
import Derived.IntWalk
namespace Go.Proofs.YtgpieipflidkpaaDoor
open Go Go.RowKit Go.Proofs
/-- the rows of a slice of slices: the values, and what they hold -/
abbrev Row8 := Value × List (BitVec 8)
def cat8 (R : List Row8) (j : Nat) : List (BitVec 8) := (R.take j).flatMap Prod.snd
def val8 (R : List Row8) (j : Nat) : Value := (R.getD j (undef, [])).1
def txt8 (R : List Row8) (j : Nat) : List (BitVec 8) := (R.getD j (undef, [])).2
theorem cat8_succ (R : List Row8) (j : Nat) (h : j < R.length) : cat8 R (j + 1) = cat8 R j ++ txt8 R j := by
  unfold cat8 txt8; rw [take_snoc' R j h, List.flatMap_append]; simp [h]
theorem cat8_le (R : List Row8) (j : Nat) : (cat8 R j).length ≤ (cat8 R R.length).length := by
  unfold cat8
  conv => rhs; rw [List.take_of_length_le (Nat.le_refl _), ← List.take_append_drop j R]
  rw [List.flatMap_append, List.length_append]; omega
set_option maxRecDepth 100000 in
set_option maxHeartbeats 1600000 in
theorem join_ (w : World) (G : Nat) (R : List Row8) (k : Nat) (hk : R.length = k) (T : TypeId) (fr : Nat × Nat) (hG : w.heap[G]? = some (.cells (R.map Prod.fst).toArray T fr))
    (hr : ∀ r ∈ R, RdB w r.1 r.2) (hlen : (cat8 R k).length ≤ 1099511627776) (hk100 : k ≤ 1000) :
    Calls Tryd.prog 20 #[.slice (some ⟨G, 0, none⟩) k k] w fun e w' => ∃ v, e = .returned v ∧ OwnB w' w.heap.size v (cat8 R k) ∧ Upd [] w w' := by
  have HLT : Hid (∀ j, (cat8 R j).length ≤ (cat8 R k).length) := fun j => by rw [← hk]; exact cat8_le R j
  have HLS : Hid (∀ j, j < k → cat8 R (j + 1) = cat8 R j ++ txt8 R j) := fun j h => cat8_succ R j (by omega)
  obtain ⟨N, hN⟩ : ∃ N, (cat8 R k).length = N := ⟨_, rfl⟩
  have hN' : N ≤ 1099511627776 := by omega
  have HC : Hid (∀ i, i < k → w.cell? ⟨G, i, none⟩ = some (val8 R i)) := fun i h => by
    rw [cell_of_row w G i _ _ _ hG]; simp [val8, hk ▸ h]
  have HR : Hid (∀ i, i < k → RdB w (val8 R i) (txt8 R i)) := fun i h => by
    have e : R.getD i (undef, []) = R[i] := by simp [hk ▸ h]
    unfold val8 txt8; rw [e]; exact hr _ (List.getElem_mem _)
  have HN := Lib.hid hN
  clear hr hN hlen hk hG
  obtain ⟨B, hB⟩ : ∃ B, w.heap.size = B := ⟨_, rfl⟩
  have HB := Lib.hid hB
  rw [hB]
  clear hB
  go_enter Tryd.func20, Tryd.ntmps20
  go_wp2
  go_loop [3, 11] (fun n i => ∃ j : Nat, j ≤ k ∧ i = .int .i64 j ∧ n = .int .i64 (cat8 R j).length) (fun _ i => k - (intOf i).toNat)
  case atStart => exact ⟨0, by omega, rfl, by simp [cat8]⟩
  case round =>
    obtain ⟨j, hj, rfl, rfl⟩ := hrel
    by_cases h : j < k
    · have hc := HC.out j h
      obtain ⟨A, c, e, hc1, hc2⟩ := (HR.out j h).isSlice
      rw [e] at hc
      have e1 := HLS.out j h
      have e2 := HLT.out (j + 1)
      have e3 := HN.out
      have e4 : (cat8 R (j + 1)).length = (cat8 R j).length + (txt8 R j).length := by rw [e1, List.length_append]
      obtain ⟨m, hm⟩ : ∃ m, (txt8 R j).length = m := ⟨_, rfl⟩
      obtain ⟨s, hs⟩ : ∃ m, (cat8 R j).length = m := ⟨_, rfl⟩
      obtain ⟨t, ht⟩ : ∃ m, (cat8 R (j + 1)).length = m := ⟨_, rfl⟩
      rw [hm] at hc
      rw [hm, hs, ht] at e4
      rw [ht, e3] at e2
      rw [hs]
      have ht' := Lib.hid ht
      have e4' := Lib.hid e4
      have hb1 : s + m ≤ 1099511627776 := by omega
      have hb2 : (s : Int) + (m : Int) ≤ 1099511627776 := by omega
      clear e e1 e2 e3 e4 hm hs ht hc1 hc2
      have hjk : (j : Int) < (k : Int) := by omega
      go_wp2
      go_round
      case rel => exact ⟨j + 1, by omega, by go_num, by rw [ht'.out, e4'.out]; go_num⟩
      case measure => simp [intOf]; omega
    · obtain rfl : j = k := by omega
      have e2 : (cat8 R j).length = N := HN.out
      rw [e2]
      clear h e2
      go_wp2_with (refine make_bytes rfl _ _ rfl B 0 N _ _ rfl rfl rfl rfl (by omega) (by omega) (by have := HB.out; omega) ?_; intro w1 hO hU)
      obtain ⟨v0, hv0⟩ : ∃ v, Value.slice (some ⟨w.heap.size, 0, none⟩) 0 N = v := ⟨_, rfl⟩
      rw [hv0] at hO ⊢
      clear hv0
      go_wp2
      go_loopw [6, 24] (fun v i wr => ∃ q : Nat, q ≤ j ∧ i = .int .i64 q ∧ OwnB wr B v (cat8 R q) ∧ Upd [] w wr) (fun _ i _ => j - (intOf i).toNat)
      case atStart => exact ⟨0, by omega, rfl, by simpa [cat8] using hO, hU⟩
      case round =>
        obtain ⟨q, hq, rfl, hO, hU⟩ := hrel
        by_cases h : q < j
        · have hc := hU.cell (HC.out q h) (by simp)
          have hrd := (HR.out q h).upd0 hU
          have e1 := HLS.out q h
          have e2 := HLT.out (q + 1)
          have e3 := HN.out
          obtain ⟨u, hu⟩ : ∃ u, val8 R q = u := ⟨_, rfl⟩
          obtain ⟨m, hm⟩ : ∃ m, txt8 R q = m := ⟨_, rfl⟩
          rw [hu] at hc hrd
          rw [hm] at hrd e1
          have HO := Lib.hid hO
          have HU := Lib.hid hU
          have HRD := Lib.hid hrd
          have E1 := Lib.hid e1
          have hlen : (cat8 R q).length + m.length ≤ 140737488355328 := by
            rw [e1, List.length_append, e3] at e2; omega
          have hbsz : B ≤ wr.heap.size := by have := hU.size; have := HB.out; omega
          clear e1 e2 e3 hu hm hO hU hrd
          have hjk : (q : Int) < (j : Int) := by omega
          go_wp2_with (refine append_rd rfl _ _ rfl B u6 _ rfl HO.out u m rfl HRD.out hlen hbsz ?_; intro v' w2 hO2 hO2' hU2 hG2)
          go_roundw
          case rel => exact ⟨q + 1, by omega, by go_num, by rw [E1.out]; exact hO2, HU.out.row hU2 (fun g hg => by have := (HO.out.lt g hg).1; have := HB.out; omega)⟩
          case measure => simp [intOf]; omega
        · obtain rfl : q = j := by omega
          go_wp2
          go_ret
          exact ⟨_, rfl, hO, hU⟩
end Go.Proofs.YtgpieipflidkpaaDoor
