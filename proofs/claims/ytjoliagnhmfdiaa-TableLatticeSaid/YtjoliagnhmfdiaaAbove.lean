/-
  The document's 'above', 'sealed'.
-/
import Derived.Test.YtjoliagnhmfdiaaEnt
namespace Go.Proofs.Ytjoliagnhmfdiaa
open Go Go.RowKit Go.Proofs
def aboveB : List (BitVec 8) → List (BitVec 8) → Bool
  | a :: r, b :: s => if a = b then aboveB r s else decide (a > b)
  | _, _ => false
theorem aboveB_at : ∀ (l m : List (BitVec 8)) (k : Nat) (h1 : k < l.length) (h2 : k < m.length), l.take k = m.take k → l[k] ≠ m[k] → aboveB l m = decide (l[k] > m[k])
  | a :: r, b :: s, 0, _, _, _, hne => by
    simp only [List.getElem_cons_zero] at hne ⊢
    rw [aboveB, if_neg hne]
  | a :: r, b :: s, k + 1, h1, h2, ht, hne => by
    simp only [List.take_succ_cons, List.cons.injEq] at ht
    simp only [List.getElem_cons_succ] at hne ⊢
    rw [aboveB, if_pos ht.1]
    exact aboveB_at r s k (by simpa using h1) (by simpa using h2) ht.2 hne
theorem aboveB_self : ∀ (l : List (BitVec 8)), aboveB l l = false
  | [] => rfl
  | a :: r => by rw [aboveB, if_pos rfl]; exact aboveB_self r
theorem above_cmp : ∀ (l m : List (BitVec 8)), l.length = m.length → (aboveB l m = true ↔ cmpB m l < 0) ∧ (cmpB m l = 0 ↔ l = m) ∧ (cmpB l m < 0 ↔ cmpB m l > 0)
  | [], [], _ => by simp [aboveB, cmpB]
  | [], _ :: _, h => by simp at h
  | _ :: _, [], h => by simp at h
  | a :: r, b :: s, h => by
    obtain ⟨i1, i2, i3⟩ := above_cmp r s (by simpa using h)
    by_cases hab : a = b
    · subst hab
      have hlt : ¬ a < a := by rw [BitVec.lt_def]; omega
      simp only [aboveB, cmpB, if_true, hlt, if_false, List.cons.injEq, true_and]
      exact ⟨i1, i2, i3⟩
    · have hn : a.toNat ≠ b.toNat := fun h => hab (BitVec.eq_of_toNat_eq h)
      rw [aboveB, if_neg hab]
      simp only [cmpB, BitVec.lt_def, gt_iff_lt, decide_eq_true_eq, List.cons.injEq, hab, false_and, iff_false]
      rcases Nat.lt_or_ge a.toNat b.toNat with h1 | h1
      · have h2 : ¬ b.toNat < a.toNat := by omega
        simp [h1, h2]
      · have h2 : b.toNat < a.toNat := by omega
        have h3 : ¬ a.toNat < b.toNat := by omega
        simp [h2, h3]
theorem gtr_u8 (x y : BitVec 8) (W : World) : (binOp .gtr 5 (U8 x) (U8 y)).run Try.prog W = .ok (.bool (decide (x > y))) W := by
  have e : decide (x > y) = decide ((x.toNat : Int) > (y.toNat : Int)) := by
    simp only [gt_iff_lt, BitVec.lt_def, Int.ofNat_lt]
  rw [e]
  simp [U8, go_sem]
set_option maxRecDepth 100000 in
set_option maxHeartbeats 3200000 in
theorem above_ (w : World) (va vb : Value) (l m : List (BitVec 8)) (ha : RdB w va l) (hb : RdB w vb m) (hl : l.length = m.length) (hn : l.length ≤ 100) :
    Calls Try.prog 17 #[va, vb] w fun e w' => e = .returned (.bool (aboveB l m)) ∧ Upd [] w w' := by
  obtain ⟨A, ca, ea, hca, hcm⟩ := ha.isSlice
  obtain ⟨D, cb, eb, hcb, hcn⟩ := hb.isSlice
  obtain ⟨n, hn'⟩ : ∃ n, l.length = n := ⟨_, rfl⟩
  have hm' : m.length = n := by omega
  rw [hn'] at ea hn
  rw [hm'] at eb
  have HA := Lib.hid ha
  have HB := Lib.hid hb
  have HN := Lib.hid hn'
  have HM := Lib.hid hm'
  have hn8 : (n : Int) ≤ 100 := by omega
  rw [ea] at HA ⊢
  rw [eb] at HB ⊢
  clear ha hb hl hn' hm' ea eb hca hcb hcm hcn
  go_enter Try.func17, Try.ntmps17
  go_wp2_with (fail)
  go_loopw [5] (fun iv wr => ∃ k : Nat, k ≤ n ∧ iv = .int .i64 k ∧ l.take k = m.take k ∧ Upd [] w wr) (fun iv _ => n - (intOf iv).toNat)
  case atStart => exact ⟨0, by omega, rfl, by simp, Upd.refl _ _⟩
  case round =>
    obtain ⟨k, hk, rfl, heq, hU⟩ := hrel
    have HU := Lib.hid hU
    have HEQ := Lib.hid heq
    obtain ⟨wo, rfl⟩ : ∃ wo : World, wo = wr := ⟨_, rfl⟩
    clear hU heq
    by_cases h : k < n
    · have h' : (k : Int) < (n : Int) := by omega
      have hka : k < l.length := by rw [HN.out]; exact h
      have hkb : k < m.length := by rw [HM.out]; exact h
      obtain ⟨ga, pa, c1, e1, _, _, ra⟩ := (HA.out.upd0 HU.out).at (by omega)
      injection e1 with e2 e3 e4
      obtain ⟨gb, pb, c2, e5, _, _, rb⟩ := (HB.out.upd0 HU.out).at (by omega)
      injection e5 with e6 e7 e8
      have hela := ra k hka
      have helb := rb k hkb
      obtain ⟨x, hx⟩ : ∃ x, l[k]'hka = x := ⟨_, rfl⟩
      obtain ⟨y, hy⟩ : ∃ x, m[k]'hkb = x := ⟨_, rfl⟩
      rw [hx] at hela
      rw [hy] at helb
      rw [e2, e6]
      have HX := Lib.hid hx
      have HY := Lib.hid hy
      clear e2 e3 e4 e6 e7 e8 hx hy ra rb
      by_cases hxy : x = y
      · have hne : (x != y) = false := by simp [hxy]
        have HNX : Hid (l.take (k + 1) = m.take (k + 1)) := by
          show l.take (k + 1) = m.take (k + 1)
          rw [List.take_succ_eq_append_getElem hka, List.take_succ_eq_append_getElem hkb, HEQ.out, HX.out, HY.out, hxy]
        clear hxy
        go_wp2_with (fail)
        go_quiet (skip)
        rename Nat => nq
        obtain ⟨wq, hwq⟩ : ∃ W, wo.drewN nq = W := ⟨_, rfl⟩
        have HT : Hid (Upd [] w wq) := by rw [← hwq]; exact HU.out.drewN nq
        rw [hwq]
        clear hwq
        go_wp2_with (fail)
        go_roundw
        case rel => exact ⟨k + 1, by omega, by go_num, HNX.out, HT.out⟩
        case measure => simp [intOf]; omega
      · have hne : (x != y) = true := by simpa using hxy
        have HR : Hid (aboveB l m = decide (x > y)) := by
          have := aboveB_at l m k hka hkb HEQ.out (by rw [HX.out, HY.out]; exact hxy)
          rwa [HX.out, HY.out] at this
        clear hxy
        go_wp2_with (fail)
        go_quiet (skip)
        rename Nat => nq
        obtain ⟨wq, hwq⟩ : ∃ W, wo.drewN nq = W := ⟨_, rfl⟩
        have HT : Hid (Upd [] wo wq) := by rw [← hwq]; exact (Upd.refl [] wo).drewN nq
        rw [hwq]
        have c1 := HT.out.cell hela (by simp)
        have c2 := HT.out.cell helb (by simp)
        have hgt := gtr_u8 x y
        clear hwq hela helb
        go_wp2_with (fail)
        go_quiet (skip)
        rename Nat => nq2
        go_wp2_with (fail)
        go_ret
        exact ⟨by rw [HR.out]; rfl, (HU.out.trans HT.out).drewN nq2⟩
    · obtain rfl : k = n := by omega
      have h' : ¬ ((k : Int) < (k : Int)) := by omega
      have HR : Hid (aboveB l m = false) := by
        have := HEQ.out
        rw [List.take_of_length_le (by rw [HN.out]; omega), List.take_of_length_le (by rw [HM.out]; omega)] at this
        show aboveB l m = false
        rw [this]; exact aboveB_self m
      go_wp2_with (fail)
      go_ret
      exact ⟨by rw [HR.out]; rfl, HU.out⟩
def sealSig (a : Bool) (s : List (BitVec 8)) (b : Bool) (t : List (BitVec 8)) : List (BitVec 8) := if a && b then (if aboveB s t then s else t) else if a then s else if b then t else zeros64
end Go.Proofs.Ytjoliagnhmfdiaa
