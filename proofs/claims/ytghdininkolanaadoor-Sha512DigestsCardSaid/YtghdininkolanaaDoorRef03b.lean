/-
  The document's schedule for sha512: words, Schedule.
-/
import Derived.Test.YtghdininkolanaaDoorRef03a
import Derived.Test.YtghdininkolanaaDoorQwords
import Derived.Test.YtghdininkolanaaDoorRegion2
namespace Go.Proofs.YtghdininkolanaaDoor
open Go Go.RowKit Go.Proofs
set_option maxRecDepth 100000 in
set_option maxHeartbeats 3200000 in
theorem refwords64 (w : World) (b o c : Nat) (l : List (BitVec 8)) (hl : l.length = 128) (hb : Bytes w b o l) (hc : 128 ≤ c ∧ c ≤ maxLen) :
    Calls Tryd.prog 44 #[.slice (some ⟨b, o, none⟩) 128 c] w fun e w' => ∃ v, e = .returned v ∧ OwnQ w' w.heap.size v (words64 l 80) ∧ Upd [] w w' := by
  have hc2 : c ≤ 9223372036854775807 := by have := hc.2; simp [maxLen] at this; omega
  have hc1 := hc.1
  clear hc
  have HB := Lib.hid hb
  clear hb
  have hlt := Lib.hid (words64_length l)
  have hget := Lib.hid (fun n k => words64_get l n k)
  go_enter Tryd.func44, Tryd.ntmps44
  go_wp2
  go_loopw [3, 4] (fun v i wr => ∃ k : Nat, k ≤ 16 ∧ i = .int .i64 k ∧ OwnQ wr w.heap.size v (words64 l k) ∧ Upd [] w wr) (fun _ i _ => 16 - (intOf i).toNat)
  case atStart => exact ⟨0, by omega, rfl, OwnQ.nil _ _, Upd.refl _ _⟩
  case round =>
    obtain ⟨k, hk, rfl, hO, hU⟩ := hrel
    have hs := hU.size
    by_cases h : k < 16
    · have hll : (words64 l k).length ≤ 100 := by rw [words64_length]; omega
      have hB2 : Bytes wr b (o + 8 * k) ((l.drop (8 * k)).take 8) := ((HB.out.upd hU (by simp)).drop (8 * k)).take 8
      have hp8 : ((l.drop (8 * k)).take 8).length = 8 := by simp; omega
      have hb1 : (8 * (k : Int)).toNat = 8 * k := by omega
      have hb2 : (8 * (k : Int) + 8).toNat = 8 * k + 8 := by omega
      have hb3 : 0 ≤ 8 * (k : Int) ∧ 8 * (k : Int) + 8 ≤ 128 ∧ 8 * (k : Int) ≤ 8 * (k : Int) + 8 ∧ 8 * (k : Int) + 8 ≤ c ∧ 8 * k + 8 - 8 * k = 8 := by omega
      have e1 : words64 l (k + 1) = words64 l k ++ [be 64 ((l.drop (8 * k)).take 8)] := by rw [words64, if_pos h]
      have HE := Lib.hid e1
      have HO := Lib.hid hO
      have HB2 := Lib.hid hB2
      have HP8 := Lib.hid hp8
      clear e1 hO hB2 hp8
      go_wp2_with (first
        | (go_at_call 54; refine (refword64 _ _ _ _ _ HP8.out HB2.out).mono ?_; rintro e w' ⟨rfl, rfl⟩)
        | (refine append_qword rfl _ _ rfl w.heap.size u3 _ rfl wr (be 64 ((l.drop (8 * k)).take 8)) rfl HO.out rfl (by omega) hs ?_; intro v2 w2 hO2 hU2 _))
      go_roundw
      case rel => exact ⟨k + 1, by omega, by go_num, by rw [HE.out]; exact hO2, hU.row hU2 (fun g hg => (HO.out.lt g hg).1)⟩
      case measure => simp [intOf]; omega
    · obtain rfl : k = 16 := by omega
      clear hk h
      go_wp2
      rw [show ((16 : Nat) : Int) = 16 from rfl]
      go_loopw [3, 5] (fun v i wr => ∃ k : Nat, 16 ≤ k ∧ k ≤ 80 ∧ i = .int .i64 k ∧ OwnQ wr w.heap.size v (words64 l k) ∧ Upd [] w wr) (fun _ i _ => 80 - (intOf i).toNat)
      case atStart => exact ⟨16, by omega, by omega, rfl, hO, hU⟩
      case round =>
        clear hO hU hs
        obtain ⟨k, hk1, hk2, rfl, hO, hU⟩ := hrel
        have hs := hU.size
        by_cases h : k < 80
        · have hwl := words64_length l k
          obtain ⟨g, cv, rfl, _, _⟩ := hO.at (by omega)
          have i2 : (2 : Int) ≤ k ∧ (k : Int) - 2 < k := by omega
          have i7 : (7 : Int) ≤ k ∧ (k : Int) - 7 < k := by omega
          have i15 : (15 : Int) ≤ k ∧ (k : Int) - 15 < k := by omega
          have i16 : (16 : Int) ≤ k ∧ (k : Int) - 16 < k := by omega
          have n2 : ((k : Int) - 2).toNat = k - 2 := by omega
          have n7 : ((k : Int) - 7).toNat = k - 7 := by omega
          have n15 : ((k : Int) - 15).toNat = k - 15 := by omega
          have n16 : ((k : Int) - 16).toNat = k - 16 := by omega
          have g2 := hO.cell (k - 2) (by omega)
          have g7 := hO.cell (k - 7) (by omega)
          have g15 := hO.cell (k - 15) (by omega)
          have g16 := hO.cell (k - 16) (by omega)
          have e : words64 l (k + 1) = words64 l k ++ [nextW64 (words64 l k) k] := by rw [words64, if_neg (by omega)]
          unfold nextW64 at e
          obtain ⟨x2, e2⟩ : ∃ x, (words64 l k).getD (k - 2) 0 = x := ⟨_, rfl⟩
          obtain ⟨x7, e7⟩ : ∃ x, (words64 l k).getD (k - 7) 0 = x := ⟨_, rfl⟩
          obtain ⟨x15, e15⟩ : ∃ x, (words64 l k).getD (k - 15) 0 = x := ⟨_, rfl⟩
          obtain ⟨x16, e16⟩ : ∃ x, (words64 l k).getD (k - 16) 0 = x := ⟨_, rfl⟩
          rw [e2] at g2 e
          rw [e7] at g7 e
          rw [e15] at g15 e
          rw [e16] at g16 e
          rw [hwl] at hO ⊢
          have HE := Lib.hid e
          have HO := Lib.hid hO
          have HL := Lib.hid hwl
          clear e e2 e7 e15 e16 hO hwl
          go_wp2
          refine wp_region_copy_quiet_tail 25 (fun w' => ∃ n, w' = wr.drewN n) (.slice (some ⟨g, 0, none⟩) k cv) (by kernel_rfl) (by kernel_rfl) (fun _ _ _ h => h) (Or.inl ⟨by rfl, ?_⟩) ⟨1, rfl⟩ ?_
          · intro w
            go_simp
          simp only [Act.put, List.setIfInBounds_toArray, List.set_cons_zero, List.set_cons_succ]
          simp only [List.take_succ_cons, List.take_zero, List.drop_succ_cons, List.drop_zero]
          repeat ((refine wpQuiet_step (fun K hK => ?_)); go_simp; (try go_bits); first | (refine hK _ ?_; clear hK K) | (apply Exists.intro; refine ⟨fun _ => ?_, hK _ ?_⟩; (first | exact Calls.quiet_of_same ((refs1 _ _).mono fun _ _ h => ⟨h.1, h.2.symm⟩) | exact Calls.quiet_of_same ((refs0 _ _).mono fun _ _ h => ⟨h.1, h.2.symm⟩)); clear hK K))
          refine wpQuiet_nil ?_
          rintro _ ⟨nq, rfl⟩
          go_wp2_with (first | (refine append_qword rfl _ _ rfl w.heap.size (.slice (some ⟨g, 0, none⟩) k cv) (words64 l k) rfl (wr.drewN nq) (bend x2 19 61 6 + x7 + bend x15 1 8 7 + x16) rfl (HO.out.drew nq) rfl (by rw [HL.out]; omega) hs ?_; intro v2 w2 hO2 hU2 _))
          go_roundw
          case rel => exact ⟨k + 1, by omega, by omega, by go_num, by rw [HE.out]; exact hO2, (hU.drewN nq).row hU2 (fun g hg => (HO.out.lt g hg).1)⟩
          case measure => simp [intOf]; omega
        · obtain rfl : k = 80 := by omega
          go_wp2
          go_ret
          exact ⟨_, rfl, hO, hU⟩
end Go.Proofs.YtghdininkolanaaDoor
