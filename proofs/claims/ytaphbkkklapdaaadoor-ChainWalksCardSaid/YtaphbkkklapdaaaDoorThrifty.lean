/-
  The law's lg and thrifty.
-/
import Derived.Test.YtaphbkkklapdaaaDoorNext
namespace Go.Proofs.YtaphbkkklapdaaaDoor
open Go Go.RowKit Go.Proofs Go.Maps
theorem lgN_le12 {n : Nat} (h : n ≤ 4096) : lgN n ≤ 12 := by
  have := lgN_mono 4096 n h
  have e : lgN 4096 = 12 := (lgN_unique (by decide) (by right; decide)).symm
  omega
set_option maxRecDepth 100000 in
theorem lg_ (w : World) (n : Nat) (hn : n ≤ 4096) : Calls Tryd.prog 21 #[.int .i64 n] w fun e w' => e = .returned (.int .i64 (lgN n)) ∧ Upd [] w w' := by
  go_enter Tryd.func21, Tryd.ntmps21
  go_wp2_with (fail)
  go_loopw [3, 4] (fun kv pv wr => ∃ k P : Nat, 2 ^ k = P ∧ P ≤ 8192 ∧ 1 ≤ P ∧ k ≤ P ∧ kv = .int .i64 k ∧ pv = .int .i64 P ∧ (k = 0 ∨ 2 ^ (k - 1) < n) ∧ Upd [] w wr) (fun _ pv _ => n - (intOf pv).toNat)
  case atStart => exact ⟨0, 1, rfl, by omega, by omega, by omega, rfl, rfl, .inl rfl, Upd.refl _ _⟩
  case round =>
    obtain ⟨k, P, hP, hP2, hP1, hkP, rfl, rfl, hk, hU⟩ := hrel
    have HP := Lib.hid hP
    have HK := Lib.hid hk
    have HN : Hid (n ≤ 4096) := hn
    have ki : (k : Int) ≤ 8192 := by omega
    clear hP hk
    by_cases h : P < n
    · have pi : (P : Int) < (n : Int) := by omega
      have pi2 : (P : Int) ≤ 4096 := by omega
      go_wp2_with (fail)
      go_roundw
      case rel => exact ⟨k + 1, 2 * P, by rw [Nat.pow_succ, HP.out]; omega, by omega, by omega, by omega, by go_num, by go_num, .inr (by rw [Nat.add_sub_cancel, HP.out]; exact h), hU⟩
      case measure => simp [intOf]; omega
    · have pi : ¬ (P : Int) < (n : Int) := by omega
      have hkl : k = lgN n := lgN_unique (by rw [HP.out]; omega) HK.out
      have HKL := Lib.hid hkl
      clear hkl
      go_wp2_with (fail)
      go_ret
      exact ⟨by rw [← HKL.out]; rfl, hU⟩
set_option maxRecDepth 100000 in
set_option maxHeartbeats 3200000 in
theorem thrifty_ (w : World) (lo bw bm bx n told s calls steps : Nat) (seed : List (BitVec 8)) (ms : List Nat) (D : DataW Value) (h : WalkerAt w lo bw bm bx seed n told s ms D) (hg : Good n s ms) (hn1 : 1 ≤ n) (hn : n ≤ 4096) (hc : calls < n → 1 ≤ ms.length) (hc0 : calls = 0 ∨ n ≤ s + 1) (hst : steps ≤ s) (hcl : calls ≤ 100000) :
    Calls Tryd.prog 10 #[.pointer (some ⟨bw, 0, none⟩), .int .i64 n, .int .i64 calls, .int .i64 steps] w fun e w' => e = .returned (.bool true) ∧ Upd [] w w' := by
  have hcnt := hg.count
  have hcost := hg.cost
  have hl12 := lgN_le12 hn
  have HLG : Hid (∀ W, Calls Tryd.prog 21 #[.int .i64 n] W fun e w' => e = .returned (.int .i64 (lgN n)) ∧ Upd [] W w') := fun W => lg_ W n hn
  obtain ⟨Lg, hLg⟩ : ∃ x, lgN n = x := ⟨_, rfl⟩
  rw [hLg] at hcnt hcost hl12 HLG
  obtain ⟨Q, hQ⟩ : ∃ x, n * Lg = x := ⟨_, rfl⟩
  rw [hQ] at hcost
  have hQ2 : Q ≤ 49152 := by rw [← hQ]; have := Nat.mul_le_mul hn hl12; omega
  have hprod : (n : Int) * (Lg : Int) = (Q : Int) := by rw [← hQ]; push_cast; rfl
  obtain ⟨p, hp⟩ : ∃ x, ms.length = x := ⟨_, rfl⟩
  have HPB : Hid (∀ W, Upd [] w W → Calls Tryd.prog 20 #[.pointer (some ⟨bw, 0, none⟩)] W fun e w' => e = .returned (.int .i64 p) ∧ Upd [] W w') := fun W hW => by rw [← hp]; exact pebbles_ W lo bw bm bx n told s seed ms D (h.upd hW (by simp) (by simp) (by simp))
  have HST : Hid (∀ W, Upd [] w W → Calls Tryd.prog 14 #[.pointer (some ⟨bw, 0, none⟩)] W fun e w' => e = .returned (.int .i64 s) ∧ Upd [] W w') := fun W hW => steps_ W lo bw bm bx n told s seed ms D (h.upd hW (by simp) (by simp) (by simp))
  rw [hp] at hcnt hc
  have f1 : ¬ (p : Int) < 0 := by omega
  have f2 : ¬ (p : Int) > (Lg : Int) + 1 := by omega
  have f2' : ¬ (Lg : Int) + 1 < (p : Int) := by omega
  have f3 : (s : Int) ≥ (steps : Int) := by omega
  have f3' : (steps : Int) ≤ (s : Int) := by omega
  have f4 : 2 * (s : Int) ≤ (Q : Int) := by omega
  have f5 : (s : Int) ≤ 49152 := by omega
  have f6 : (n : Int) ≤ 4096 := by omega
  have f7 : (Lg : Int) ≤ 12 := by omega
  have f8 : (Q : Int) ≤ 49152 := by omega
  have hwq : wrap64 (Q : Int) = (Q : Int) := by simp only [wrap64]; omega
  have HC := Lib.hid hc
  have HC0 := Lib.hid hc0
  clear h hg hcnt hcost hLg hQ hp hQ2 hc hc0 hst
  go_enter Tryd.func10, Tryd.ntmps10
  go_wp2_with (fail)
  with_reducible refine (HPB.out _ (Upd.refl _ _)).mono ?_
  rintro e w1 ⟨rfl, hU1⟩
  go_wp2_with (fail)
  with_reducible refine (HST.out _ hU1).mono ?_
  rintro e w2 ⟨rfl, hU2⟩
  have hV2 := hU1.trans hU2
  clear hU1 hU2 HPB HST
  go_wp2_with (fail)
  with_reducible refine (HLG.out _).mono ?_
  rintro e w3 ⟨rfl, hU3⟩
  have hV3 := hV2.trans hU3
  clear hV2 hU3
  by_cases hcn : calls < n
  · have g1 : (calls : Int) < (n : Int) := by omega
    have g2 : ¬ (p : Int) < 1 := by have := HC.out hcn; omega
    clear hcn
    go_wp2_with (fail)
    with_reducible refine (HLG.out _).mono ?_
    rintro e w4 ⟨rfl, hU4⟩
    have hV4 := hV3.trans hU4
    by_cases hz : calls = 0
    · subst hz
      go_wp2_with (fail)
      go_ret
      exact ⟨rfl, hV4⟩
    · have g3 : ((calls : Int) == 0) = false := by rw [beq_eq_false_iff_ne]; omega
      have g4 : (s : Int) ≥ (n : Int) - 1 := by rcases HC0.out with h | h <;> omega
      have g4' : (n : Int) - 1 ≤ (s : Int) := g4
      clear hz
      go_wp2_with (fail)
      go_ret
      exact ⟨rfl, hV4⟩
  · have g1 : ¬ (calls : Int) < (n : Int) := by omega
    go_wp2_with (fail)
    with_reducible refine (HLG.out _).mono ?_
    rintro e w4 ⟨rfl, hU4⟩
    have hV4 := hV3.trans hU4
    have g3 : ((calls : Int) == 0) = false := by rw [beq_eq_false_iff_ne]; omega
    have g4 : (s : Int) ≥ (n : Int) - 1 := by rcases HC0.out with h | h <;> omega
    have g4' : (n : Int) - 1 ≤ (s : Int) := g4
    clear hcn
    go_wp2_with (fail)
    go_ret
    exact ⟨rfl, hV4⟩
end Go.Proofs.YtaphbkkklapdaaaDoor
