/-
  marked and left: bytes handed in, with marks behind them.
-/
import Derived.Test.YtghdininkolanaaDoorCopy
import Derived.Test.YtghdininkolanaaDoorRegion
namespace Go.Proofs.YtghdininkolanaaDoor
open Go Go.RowKit Go.Proofs
/-- bytes with 80 marks behind them -/
def marks80 (m : List (BitVec 8)) : List (BitVec 8) := m ++ List.replicate 80 165
theorem marks80_length (m : List (BitVec 8)) : (marks80 m).length = m.length + 80 := by simp [marks80]
set_option maxRecDepth 100000 in
set_option maxHeartbeats 1600000 in
theorem marked02 (w : World) (v : Value) (m : List (BitVec 8)) (hv : RdB w v m) (hm : m.length ≤ 140737488355232) :
    Calls Tryd.prog 18 #[v] w fun e w' => ∃ g cap, e = .returned (.slice (some ⟨g, 0, none⟩) m.length cap) ∧ OwnB w' w.heap.size (.slice (some ⟨g, 0, none⟩) (m.length + 80) cap) (marks80 m) ∧ Upd [] w w' := by
  obtain ⟨A, c, rfl, hc1, hc2⟩ := hv.isSlice
  have HV := Lib.hid hv
  clear hv
  go_enter Tryd.func18, Tryd.ntmps18
  go_upto_region 3 with (at_builtin; refine append_rd rfl _ _ rfl w.heap.size (.slice none 0 0) [] (by rfl) (OwnB.nil _ _) _ m (by rfl) HV.out (by simp; omega) (Nat.le_refl _) ?_; intro v2 w2 hO2 _ hU2 hG2; simp only [List.nil_append] at hO2 hG2)
  have hU3 : Upd [] w w2 := hU2.mono (by simp [Value.ownBlock])
  clear hU2 hG2
  go_wp2
  go_loopw [3, 4] (fun x i wr => ∃ k : Nat, k ≤ 80 ∧ i = .int .i64 k ∧ OwnB wr w.heap.size x (m ++ List.replicate k 165) ∧ Upd [] w wr) (fun _ i _ => 80 - (intOf i).toNat)
  case atStart => exact ⟨0, by omega, rfl, by simpa using hO2, hU3⟩
  case round =>
    clear hO2 hU3
    obtain ⟨k, hk, rfl, hX, hU⟩ := hrel
    have hs := hU.size
    by_cases h : k < 80
    · have hll : (m ++ List.replicate k (165 : BitVec 8)).length ≤ 140737488355320 := by simp; omega
      go_wp2_with (first | (refine append_byte rfl _ _ rfl w.heap.size u3 _ rfl wr 165 rfl hX rfl (by omega) (by omega) ?_; intro v2 w3 hO2 _ hU2 hK2))
      have e2 : (m ++ List.replicate k (165 : BitVec 8)) ++ [165] = m ++ List.replicate (k + 1) 165 := by
        rw [List.append_assoc, ← List.replicate_succ']
      rw [e2] at hO2
      have hU4 := hU.row hU2 (fun g hg => (hX.lt g hg).1)
      clear hK2 hU2 hX
      go_roundw
      case rel => exact ⟨k + 1, by omega, by go_num, hO2, hU4⟩
      case measure => simp [intOf]; omega
    · obtain rfl : k = 80 := by omega
      obtain ⟨M, hM⟩ : ∃ M, m ++ List.replicate 80 (165 : BitVec 8) = M := ⟨_, rfl⟩
      have hMl : M.length = m.length + 80 := by rw [← hM]; simp
      rw [hM] at hX
      obtain ⟨g, cap, rfl, hg1, hg2, hg3, hg4⟩ := hX.at (by omega)
      rw [hMl] at hX hg3 ⊢
      have HM := Lib.hid hM
      have HX := Lib.hid hX
      clear hM hX hMl
      go_wp2
      go_ret
      exact ⟨g, cap, rfl, by rw [marks80, HM.out]; exact HX.out, hU⟩
set_option maxRecDepth 100000 in
set_option maxHeartbeats 1600000 in
theorem left02 (w : World) (v : Value) (m : List (BitVec 8)) (g p c : Nat) (hv : RdB w v m) (hb : Bytes w g p (marks80 m)) (hc : m.length + 80 ≤ c) (hm : m.length ≤ 140737488355232) :
    Calls Tryd.prog 20 #[.slice (some ⟨g, p, none⟩) m.length c, v] w fun e w' => e = .returned (.bool true) ∧ ∃ n, w' = w.drewN n := by
  obtain ⟨A, c', rfl, hc1, hc2'⟩ := hv.isSlice
  have hv0 : ∀ k (h : k < m.length), ∃ g' p', A = some ⟨g', p', none⟩ ∧ ∀ q, (w.drewN q).cell? ⟨g', p' + k, none⟩ = some (U8 m[k]) := by
    intro k h
    obtain ⟨g', p', c', e, _, _, h1⟩ := hv.at (by omega)
    injection e with e
    exact ⟨g', p', e, fun _ => h1 k h⟩
  have hb1 : ∀ q k (h : k < m.length), (w.drewN q).cell? ⟨g, p + k, none⟩ = some (U8 m[k]) := fun q k h => by
    have := hb k (by rw [marks80_length]; omega)
    rw [show (w.drewN q).cell? ⟨g, p + k, none⟩ = w.cell? ⟨g, p + k, none⟩ from rfl, this]
    simp [marks80, List.getElem_append_left h]
  have hb2 : ∀ q k, m.length ≤ k → k < m.length + 80 → (w.drewN q).cell? ⟨g, p + k, none⟩ = some (U8 165) := fun q k h h' => by
    have := hb k (by rw [marks80_length]; omega)
    rw [show (w.drewN q).cell? ⟨g, p + k, none⟩ = w.cell? ⟨g, p + k, none⟩ from rfl, this]
    congr 2
    unfold marks80
    rw [List.getElem_append_right h, List.getElem_replicate]
  have HV := Lib.hid hv0
  have H1 := Lib.hid hb1
  have H2 := Lib.hid hb2
  obtain ⟨n, hn⟩ : ∃ n, m.length = n := ⟨_, rfl⟩
  rw [hn] at hc hm hc1 ⊢
  have HN := Lib.hid hn
  clear hv hv0 hb hb1 hb2 hn
  go_enter Tryd.func20, Tryd.ntmps20
  go_wp2
  go_loopw [6] (fun i wr => ∃ k q : Nat, k ≤ n ∧ i = .int .i64 k ∧ wr = w.drewN q) (fun i _ => n - (intOf i).toNat)
  case atStart => exact ⟨0, 0, by omega, rfl, rfl⟩
  case round =>
    obtain ⟨k, q, hk, rfl, rfl⟩ := hrel
    by_cases h : k < n
    · obtain ⟨g', p', rfl, hcv⟩ := HV.out k (by have := HN.out; omega)
      have c0 := hcv q
      have c1 := H1.out q k (by have := HN.out; omega)
      obtain ⟨x, hx⟩ : ∃ x, m[k]'(by have := HN.out; omega) = x := ⟨_, rfl⟩
      rw [hx] at c0 c1
      obtain ⟨wr, hwr⟩ : ∃ wr, w.drewN q = wr := ⟨_, rfl⟩
      rw [hwr] at c0 c1 ⊢
      have HW := Lib.hid hwr
      have hne : (x != x) = false := by simp
      clear hcv hx hwr
      go_wp2
      go_quiet (skip)
      rename Nat => nq
      go_wp2
      go_roundw
      case rel => exact ⟨k + 1, q + nq, by omega, by go_num, by rw [← HW.out, World.drewN_drewN]⟩
      case measure => simp [intOf]; omega
    · obtain rfl : k = n := by omega
      obtain ⟨w1, hw1⟩ : ∃ w1, w.drewN q = w1 := ⟨_, rfl⟩
      have h2 : ∀ j, k ≤ j → j < k + 80 → w1.cell? ⟨g, p + j, none⟩ = some (U8 165) := fun j h h' => by
        rw [← hw1]; exact H2.out q j (by have := HN.out; omega) (by have := HN.out; omega)
      have HH := Lib.hid h2
      rw [hw1]
      have HW1 := Lib.hid hw1
      clear h2 hw1
      go_wp2
      go_loopw [7] (fun i wr => ∃ j : Nat, k ≤ j ∧ j ≤ k + 80 ∧ i = .int .i64 j ∧ wr = w1) (fun i _ => k + 80 - (intOf i).toNat)
      case atStart => exact ⟨k, by omega, by omega, rfl, rfl⟩
      case round =>
        obtain ⟨j, hj1, hj2, rfl, rfl⟩ := hrel
        by_cases hj : j < k + 80
        · have c0 := HH.out j hj1 hj
          have hji : (j : Int) < (k : Int) + 80 := by omega
          go_wp2
          go_roundw
          case rel => exact ⟨j + 1, by omega, by omega, by go_num, trivial⟩
          case measure => simp [intOf]; omega
        · have hji : ¬ (j : Int) < (k : Int) + 80 := by omega
          go_wp2
          go_ret
          exact ⟨rfl, q, HW1.out.symm⟩
end Go.Proofs.YtghdininkolanaaDoor
