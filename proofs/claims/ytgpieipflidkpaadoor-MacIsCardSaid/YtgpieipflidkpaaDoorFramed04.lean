/-
  framed: a key's frame and a text behind it.
-/
import Derived.Test.YtgpieipflidkpaaDoorLawKeys04
namespace Go.Proofs.YtgpieipflidkpaaDoor
open Go Go.RowKit Go.Proofs
theorem padKey_get (key : List (BitVec 8)) (n q : Nat) (hq : q < n) (h : key.length ≤ n) : (padKey key n)[q]'(by rw [padKey_length key n h]; exact hq) = if h : q < key.length then key[q] else 0 := by
  unfold padKey
  split
  · rename_i h'; rw [List.getElem_append_left h']
  · rename_i h'; rw [List.getElem_append_right (by omega)]; simp
def frameUp (key : List (BitVec 8)) (n : Nat) (c : BitVec 8) (q : Nat) : List (BitVec 8) := ((padKey key n).take q).map (· ^^^ c)
theorem frameUp_length (key : List (BitVec 8)) (n : Nat) (c : BitVec 8) (q : Nat) (h : key.length ≤ n) (hq : q ≤ n) : (frameUp key n c q).length = q := by
  simp [frameUp, padKey_length key n h]; omega
theorem frameUp_succ (key : List (BitVec 8)) (n : Nat) (c : BitVec 8) (q : Nat) (h : key.length ≤ n) (hq : q < n) : frameUp key n c (q + 1) = frameUp key n c q ++ [(if h : q < key.length then key[q] else 0) ^^^ c] := by
  unfold frameUp
  rw [take_snoc' _ q (by rw [padKey_length key n h]; exact hq), List.map_append, padKey_get key n q hq h]; rfl
theorem frameUp_all (key : List (BitVec 8)) (n : Nat) (c : BitVec 8) (h : key.length ≤ n) : frameUp key n c n = frameOf key n c := by
  unfold frameUp frameOf; rw [List.take_of_length_le (by rw [padKey_length key n h]; exact Nat.le_refl _)]
set_option maxRecDepth 100000 in
set_option maxHeartbeats 1600000 in
theorem framed_ (w : World) (kv tv : Value) (key text : List (BitVec 8)) (n : Nat) (c : BitVec 8) (hk : RdB w kv key) (ht : RdB w tv text) (hkl : key.length ≤ n) (hn : n ≤ 128) (htl : text.length ≤ 100000) :
    Calls Tryd.prog 14 #[kv, .int .i64 n, U8 c, tv] w fun e w' => ∃ v, e = .returned v ∧ OwnB w' w.heap.size v (frameOf key n c ++ text) ∧ Upd [] w w' := by
  obtain ⟨A1, c1, e1, hc1, hc1'⟩ := hk.isSlice
  obtain ⟨A2, c2, e2, hc2, hc2'⟩ := ht.isSlice
  obtain ⟨B, hB⟩ : ∃ B, w.heap.size = B := ⟨_, rfl⟩
  have HB := Lib.hid hB
  have HFA := Lib.hid (frameUp_all key n c hkl)
  have HFL : Hid (∀ q, q ≤ n → (frameUp key n c q).length = q) := fun q hq => frameUp_length key n c q hkl hq
  have HFS : Hid (∀ q, q < n → frameUp key n c (q + 1) = frameUp key n c q ++ [(if h : q < key.length then key[q] else 0) ^^^ c]) := fun q hq => frameUp_succ key n c q hkl hq
  have hx0 : ∀ (t : TypeId) (w : World), (binOp .xor t (.int .u8 0) (U8 c)).run Tryd.prog w = .ok (U8 c) w := fun t w => by
    have := xor_U8 (P := Tryd.prog) (w := w) t 0 c
    rwa [show (0 : BitVec 8) ^^^ c = c by simp] at this
  obtain ⟨k, hk0⟩ : ∃ k, key.length = k := ⟨_, rfl⟩
  obtain ⟨m, hm0⟩ : ∃ k, text.length = k := ⟨_, rfl⟩
  have HK : Hid (RdB w (.slice A1 k c1) key) := by have := hk; rw [e1, hk0] at this; exact this
  have HT : Hid (RdB w (.slice A2 m c2) text) := by have := ht; rw [e2, hm0] at this; exact this
  rw [hB, e1, e2, hk0, hm0]
  have HKL := Lib.hid hk0
  have HTL := Lib.hid hm0
  clear hk ht e1 e2 hB hk0 hm0 hc1 hc2
  go_enter Tryd.func14, Tryd.ntmps14
  go_wp2
  go_loopw [9, 10] (fun v i wr => ∃ q : Nat, q ≤ n ∧ i = .int .i64 q ∧ OwnB wr B v (frameUp key n c q) ∧ Upd [] w wr) (fun _ i _ => n - (intOf i).toNat)
  case atStart => exact ⟨0, by omega, rfl, by simpa [frameUp] using OwnB.nil w B, Upd.refl _ w⟩
  case round =>
    obtain ⟨q, hq, rfl, hO, hV⟩ := hrel
    have HO := Lib.hid hO
    have HV := Lib.hid hV
    clear hO hV
    by_cases h : q < n
    · have hqn : (q : Int) < (n : Int) := by omega
      have hfl := HFL.out q (by omega)
      have HQL := Lib.hid hfl
      clear hfl
      by_cases hqk : q < k
      · have hqk' : (q : Int) < (k : Int) := by omega
        have hql : q < key.length := by have := HKL.out; omega
        obtain ⟨g, p, cc, e, _, _, hby⟩ := HK.out.at (by omega)
        injection e with e1 e2 e3
        subst e1 e3
        have hc := HV.out.cell (hby q hql) (by simp)
        have hstep := HFS.out q h
        rw [dif_pos hql] at hstep
        obtain ⟨x, hx⟩ : ∃ x, key[q] = x := ⟨_, rfl⟩
        rw [hx] at hc hstep
        have HST := Lib.hid hstep
        clear hstep hx hby e2 hql
        go_wp2_with (with_reducible refine bs1 (y := x ^^^ c) (by with_unfolding_all exact rfl) ?_)
        intro g3 w3 hg3 hr3 hU3
        have hO3 := HO.out.upd0 hU3
        have hb3 : B ≤ w3.heap.size := by have := HV.out.size; have := hU3.size; have := HB.out; omega
        go_wp2_with (refine append_rd rfl _ _ rfl B u9 _ rfl hO3 (.slice (some ⟨g3, 0, none⟩) 1 1) [x ^^^ c] rfl hr3 (by have := HQL.out; simp; omega) hb3 ?_; intro v4 w4 hO4 hO4' hU4 hG4)
        go_roundw
        case rel => exact ⟨q + 1, by omega, by go_num, by rw [HST.out]; exact hO4, (HV.out.trans hU3).row hU4 (fun g hg => by have := (HO.out.lt g hg).1; have := HB.out; omega)⟩
        case measure => simp [intOf]; omega
      · have hqk' : ¬ ((q : Int) < (k : Int)) := by omega
        have hql : ¬ (q < key.length) := by have := HKL.out; omega
        have hstep := HFS.out q h
        rw [dif_neg hql, show (0 : BitVec 8) ^^^ c = c by simp] at hstep
        have HST := Lib.hid hstep
        clear hstep hql
        go_wp2_with (with_reducible refine bs1 (y := c) (by with_unfolding_all exact rfl) ?_)
        intro g3 w3 hg3 hr3 hU3
        have hO3 := HO.out.upd0 hU3
        have hb3 : B ≤ w3.heap.size := by have := HV.out.size; have := hU3.size; have := HB.out; omega
        go_wp2_with (refine append_rd rfl _ _ rfl B u9 _ rfl hO3 (.slice (some ⟨g3, 0, none⟩) 1 1) [c] rfl hr3 (by have := HQL.out; simp; omega) hb3 ?_; intro v4 w4 hO4 hO4' hU4 hG4)
        go_roundw
        case rel => exact ⟨q + 1, by omega, by go_num, by rw [HST.out]; exact hO4, (HV.out.trans hU3).row hU4 (fun g hg => by have := (HO.out.lt g hg).1; have := HB.out; omega)⟩
        case measure => simp [intOf]; omega
    · obtain rfl : q = n := by omega
      have hlen : (frameUp key q c q).length + text.length ≤ 140737488355328 := by have := HFL.out q (by omega); omega
      have hb3 : B ≤ wr.heap.size := by have := HV.out.size; have := HB.out; omega
      clear h
      go_wp2_with (refine append_rd rfl _ _ rfl B u9 _ rfl HO.out (.slice A2 m c2) text rfl (HT.out.upd0 HV.out) hlen hb3 ?_; intro v4 w4 hO4 hO4' hU4 hG4)
      rw [HFA.out] at hO4
      go_ret
      exact ⟨_, rfl, hO4, HV.out.row hU4 (fun g hg => by have := (HO.out.lt g hg).1; have := HB.out; omega)⟩
end Go.Proofs.YtgpieipflidkpaaDoor
