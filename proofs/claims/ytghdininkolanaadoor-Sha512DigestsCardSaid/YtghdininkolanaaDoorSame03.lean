/-
  same: what the statements ask of two byte strings.
-/
import Derived.Test.YtghdininkolanaaDoorBytes
import Derived.Test.YtghdininkolanaaDoorRegion
namespace Go.Proofs.YtghdininkolanaaDoor
open Go Go.RowKit Go.Proofs
set_option maxRecDepth 100000 in
set_option maxHeartbeats 800000 in
/-- two byte strings: the same, or not -/
theorem same03 (w : World) (va vb : Value) (la lb : List (BitVec 8)) (ha : ReadB w va la) (hb : ReadB w vb lb) (hl : la.length ≤ 281474976710656) (hm : lb.length ≤ 281474976710656) :
    Calls Tryd.prog 29 #[va, vb] w fun e w' => e = .returned (.bool (la == lb)) ∧ ∃ n, w' = w.drewN n := by
  by_cases hlen : la.length = lb.length
  · by_cases h0 : la.length = 0
    · obtain ⟨a, c, rfl⟩ := ha.isSlice
      obtain ⟨b, d, rfl⟩ := hb.isSlice
      have e1 : la = [] := List.eq_nil_of_length_eq_zero h0
      have e2 : lb = [] := List.eq_nil_of_length_eq_zero (by omega)
      subst e1 e2
      clear ha hb
      simp only [List.length_nil]
      go_enter Tryd.func29, Tryd.ntmps29
      go_wp2
      refine wp_loop_rounds 1 ?_
      rw [rounds_succ]
      go_wp2
      go_ret
      exact ⟨rfl, 0, rfl⟩
    · obtain ⟨g, p, c, rfl, hA⟩ := ha.at (by omega)
      obtain ⟨g', p', c', rfl, hB⟩ := hb.at (by omega)
      obtain ⟨n, hn⟩ : ∃ n, la.length = n := ⟨_, rfl⟩
      rw [← hlen]
      rw [hn] at hlen hl ⊢
      clear ha hb h0
      have HA := Lib.hid hA
      have HB := Lib.hid hB
      clear hA hB
      go_enter Tryd.func29, Tryd.ntmps29
      go_wp2
      go_loopw [5] (fun i wr => ∃ k q : Nat, k ≤ n ∧ i = .int .i64 k ∧ la.take k = lb.take k ∧ wr = w.drewN q) (fun i _ => n - (intOf i).toNat)
      case atStart => exact ⟨0, 0, by omega, rfl, by simp, rfl⟩
      case round =>
        obtain ⟨k, q, hk, rfl, heq, hwr⟩ := hrel
        have hka : k ≤ la.length := by omega
        have HW := Lib.hid hwr
        by_cases h : k < n
        · have c0 : wr.cell? ⟨g, p + k, none⟩ = some (U8 (la[k]'(by omega))) := by rw [hwr]; exact HA.out k (by omega)
          have c1 : wr.cell? ⟨g', p' + k, none⟩ = some (U8 (lb[k]'(by omega))) := by rw [hwr]; exact HB.out k (by omega)
          obtain ⟨x, hx⟩ : ∃ x, la[k]'(by omega) = x := ⟨_, rfl⟩
          obtain ⟨y, hy⟩ : ∃ y, lb[k]'(by omega) = y := ⟨_, rfl⟩
          rw [hx] at c0
          rw [hy] at c1
          have HE := Lib.hid heq
          have HX := Lib.hid hx
          have HY := Lib.hid hy
          clear hwr heq hx hy
          by_cases hxy : x = y
          · have hne : (x != y) = false := by simp [hxy]
            go_wp2
            go_quiet (skip)
            rename Nat => nq
            go_wp2
            go_roundw
            case rel =>
              refine ⟨k + 1, q + nq, by omega, by go_num, ?_, by rw [HW.out, World.drewN_drewN]⟩
              rw [take_snoc' la k (by omega), take_snoc' lb k (by omega), HE.out, HX.out, HY.out, hxy]
            case measure => simp [intOf]; omega
          · have hne : (x != y) = true := by simp [hxy]
            go_wp2
            go_quiet (skip)
            rename Nat => nq
            go_wp2
            go_ret
            refine ⟨ret_eq (congrArg Value.bool ?_), q + nq, by rw [HW.out, World.drewN_drewN]⟩
            symm
            rw [beq_eq_false_iff_ne]
            intro e
            apply hxy
            rw [← HX.out, ← HY.out]
            simp [e]
        · obtain rfl : k = n := by omega
          have he : la = lb := by
            rw [List.take_of_length_le (by omega), List.take_of_length_le (by omega)] at heq
            exact heq
          clear hwr
          go_wp2
          go_ret
          exact ⟨ret_eq (by simp [he]), q, HW.out⟩
  · obtain ⟨a, c, rfl⟩ := ha.isSlice
    obtain ⟨b, d, rfl⟩ := hb.isSlice
    have hne : (la == lb) = false := by rw [beq_eq_false_iff_ne]; intro e; exact hlen (by rw [e])
    have HE := Lib.hid hne
    have hlen' : ¬ ((la.length : Int) = lb.length) := by omega
    clear ha hb hne
    go_enter Tryd.func29, Tryd.ntmps29
    go_wp2
    go_ret
    exact ⟨ret_eq (by rw [HE.out]; rfl), 0, rfl⟩
end Go.Proofs.YtghdininkolanaaDoor
