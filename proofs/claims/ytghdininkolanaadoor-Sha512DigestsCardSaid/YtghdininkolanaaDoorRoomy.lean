/-
  roomy: bytes in memory of their own, with 64 marks behind them.
-/
import Derived.Test.YtghdininkolanaaDoorCopy
import Derived.Test.YtghdininkolanaaDoorRegion
namespace Go.Proofs.YtghdininkolanaaDoor
open Go Go.RowKit Go.Proofs
def room64 (m : List (BitVec 8)) : List (BitVec 8) := m ++ List.replicate 64 201
theorem room64_length (m : List (BitVec 8)) : (room64 m).length = m.length + 64 := by simp [room64]
set_option maxRecDepth 100000 in
set_option maxHeartbeats 1600000 in
theorem roomy03 (w : World) (v : Value) (m : List (BitVec 8)) (hv : RdB w v m) (hm : m.length ≤ 140737488355200) :
    Calls Tryd.prog 27 #[v] w fun e w' => ∃ g cap, e = .returned (.slice (some ⟨g, 0, none⟩) (m.length + 64) cap) ∧ OwnB w' w.heap.size (.slice (some ⟨g, 0, none⟩) (m.length + 64) cap) (room64 m) ∧ Upd [] w w' := by
  obtain ⟨A, c, rfl, hc1, hc2⟩ := hv.isSlice
  have hv0 : ∀ k (h : k < m.length), ∃ g' p', A = some ⟨g', p', none⟩ ∧ ∀ w', Upd [] w w' → w'.cell? ⟨g', p' + k, none⟩ = some (U8 m[k]) := by
    intro k h
    obtain ⟨g', p', c', e, _, _, h1⟩ := hv.at (by omega)
    injection e with e
    exact ⟨g', p', e, fun w' hu => (h1.upd hu (by simp)) k h⟩
  obtain ⟨n, hn⟩ : ∃ n, m.length = n := ⟨_, rfl⟩
  rw [hn] at hm hc1 ⊢
  have HV := Lib.hid hv0
  have HN := Lib.hid hn
  clear hv hv0 hn
  go_enter Tryd.func27, Tryd.ntmps27
  go_wp2
  go_loopw [3, 4] (fun x i wr => ∃ k : Nat, k ≤ n ∧ i = .int .i64 k ∧ OwnB wr w.heap.size x (m.take k) ∧ Upd [] w wr) (fun _ i _ => n - (intOf i).toNat)
  case atStart => exact ⟨0, by omega, rfl, by simpa using OwnB.nil _ _, Upd.refl _ _⟩
  case round =>
    obtain ⟨k, hk, rfl, hX, hU⟩ := hrel
    have hs := hU.size
    by_cases h : k < n
    · have hkm : k < m.length := by have := HN.out; omega
      obtain ⟨g', p', rfl, hcv⟩ := HV.out k hkm
      have c0 := hcv wr hU
      obtain ⟨y, hy⟩ : ∃ y, m[k] = y := ⟨_, rfl⟩
      rw [hy] at c0
      have HY := Lib.hid hy
      have hll : (m.take k).length ≤ 140737488355320 := by simp; omega
      have hki : (k : Int) < (n : Int) := by omega
      clear hy hcv
      go_wp2_with (first | (at_builtin; refine append_byte rfl _ _ rfl w.heap.size u3 _ (by rfl) wr y rfl hX (by rfl) (by omega) (by omega) ?_; intro v2 w3 hO2 _ hU2 hK2))
      have e2 : m.take k ++ [y] = m.take (k + 1) := by rw [List.take_succ_eq_append_getElem hkm, HY.out]
      rw [e2] at hO2
      have hU4 := hU.row hU2 (fun g hg => (hX.lt g hg).1)
      clear hK2 hU2 hX
      go_roundw
      case rel => exact ⟨k + 1, by omega, by go_num, hO2, hU4⟩
      case measure => simp [intOf]; omega
    · obtain rfl : k = n := by omega
      rw [List.take_of_length_le (by have := HN.out; omega)] at hX
      go_wp2
      go_loopw [3, 5] (fun x i wr => ∃ j : Nat, j ≤ 64 ∧ i = .int .i64 j ∧ OwnB wr w.heap.size x (m ++ List.replicate j 201) ∧ Upd [] w wr) (fun _ i _ => 64 - (intOf i).toNat)
      case atStart => exact ⟨0, by omega, rfl, by simpa using hX, hU⟩
      case round =>
        clear hX hU hs
        obtain ⟨j, hj, rfl, hX, hU⟩ := hrel
        have hs := hU.size
        by_cases h : j < 64
        · have hll : (m ++ List.replicate j (201 : BitVec 8)).length ≤ 140737488355320 := by have := HN.out; simp; omega
          go_wp2_with (first | (refine append_byte rfl _ _ rfl w.heap.size u3 _ rfl wr 201 rfl hX rfl (by omega) (by omega) ?_; intro v2 w3 hO2 _ hU2 hK2))
          have e2 : (m ++ List.replicate j (201 : BitVec 8)) ++ [201] = m ++ List.replicate (j + 1) 201 := by
            rw [List.append_assoc, ← List.replicate_succ']
          rw [e2] at hO2
          have hU4 := hU.row hU2 (fun g hg => (hX.lt g hg).1)
          clear hK2 hU2 hX
          go_roundw
          case rel => exact ⟨j + 1, by omega, by go_num, hO2, hU4⟩
          case measure => simp [intOf]; omega
        · obtain rfl : j = 64 := by omega
          obtain ⟨M, hM⟩ : ∃ M, m ++ List.replicate 64 (201 : BitVec 8) = M := ⟨_, rfl⟩
          have hMl : M.length = k + 64 := by have := HN.out; rw [← hM]; simp; omega
          rw [hM] at hX
          obtain ⟨g, cap, rfl, hg1, hg2, hg3, hg4⟩ := hX.at (by omega)
          rw [hMl] at hX hg3 ⊢
          have HM := Lib.hid hM
          have HX := Lib.hid hX
          clear hM hX hMl
          go_wp2
          go_ret
          exact ⟨g, cap, rfl, by rw [room64, HM.out]; exact HX.out, hU⟩
theorem rd_room {w : World} {B g n cap : Nat} {m : List (BitVec 8)} (h : OwnB w B (.slice (some ⟨g, 0, none⟩) n cap) (room64 m)) : RdB w (.slice (some ⟨g, 0, none⟩) m.length cap) m := by
  have hn := h.len
  obtain ⟨g', cap', e, _, _, h1, h2⟩ := h.at (by rw [room64_length]; omega)
  rw [room64_length] at hn h1
  injection e with e1 e2 e3
  subst e3
  refine .mk (by omega) h2 ?_
  have := (h.bytes).take m.length
  rwa [room64, List.take_left' rfl] at this
end Go.Proofs.YtghdininkolanaaDoor
