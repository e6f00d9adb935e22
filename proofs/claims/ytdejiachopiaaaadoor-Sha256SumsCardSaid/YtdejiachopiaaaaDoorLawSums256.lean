/-
  The law Sha256Sums: for every message it returns true and makes only new memory.
-/
import Derived.Test.YtdejiachopiaaaaDoorRefSum256
import Derived.Test.YtdejiachopiaaaaDoorMarked
import Derived.Test.YtdejiachopiaaaaDoorEqHash
namespace Go.Proofs.YtdejiachopiaaaaDoor
open Go Go.RowKit Go.Proofs
/-- the message with each byte turned by its place -/
def stirred (m : List (BitVec 8)) : List (BitVec 8) := (List.range m.length).map fun i => m.getD i 0 ^^^ BitVec.ofInt 8 ((i : Int) + 1)
theorem stirred_length (m : List (BitVec 8)) : (stirred m).length = m.length := by simp [stirred]
theorem stirred_get (m : List (BitVec 8)) (k : Nat) (h : k < m.length) : (stirred m)[k]'(by rw [stirred_length]; exact h) = m[k] ^^^ BitVec.ofInt 8 ((k : Int) + 1) := by simp [stirred, h]
/-- what lies in the given bytes behind k of them -/
def stirTo (m : List (BitVec 8)) (k : Nat) : List (BitVec 8) := (stirred m).take k ++ (marks80 m).drop k
theorem stirTo_length (m : List (BitVec 8)) (k : Nat) (h : k ≤ m.length) : (stirTo m k).length = m.length + 80 := by simp [stirTo, stirred_length, marks80_length]; omega
theorem stirTo_get (m : List (BitVec 8)) (k : Nat) (h : k < m.length) : (stirTo m k)[k]'(by rw [stirTo_length _ _ (by omega)]; omega) = m[k] := by
  have hl : ((stirred m).take k).length = k := by simp [stirred_length]; omega
  unfold stirTo
  rw [List.getElem_append_right (by omega)]
  simp only [hl, Nat.sub_self, List.getElem_drop, Nat.add_zero]
  simp [marks80, List.getElem_append_left h]
theorem stirTo_step (m : List (BitVec 8)) (k : Nat) (h : k < m.length) : (stirTo m k).set k (m[k] ^^^ BitVec.ofInt 8 ((k : Int) + 1)) = stirTo m (k + 1) := by
  have hl : ((stirred m).take k).length = k := by simp [stirred_length]; omega
  unfold stirTo
  rw [List.set_append_right _ _ (by omega), hl, Nat.sub_self, List.drop_eq_getElem_cons (l := marks80 m) (i := k) (by rw [marks80_length]; omega), List.set_cons_zero,
    List.take_succ_eq_append_getElem (l := stirred m) (by rw [stirred_length]; exact h), stirred_get m k h, List.append_assoc]
  rfl
theorem stirTo_zero (m : List (BitVec 8)) : stirTo m 0 = marks80 m := by simp [stirTo]
theorem stirTo_all (m : List (BitVec 8)) : stirTo m m.length = marks80 (stirred m) := by
  simp [stirTo, marks80, List.take_of_length_le (Nat.le_of_eq (stirred_length m))]
theorem rd_marked {w : World} {B g n cap : Nat} {m : List (BitVec 8)} (h : OwnB w B (.slice (some ⟨g, 0, none⟩) n cap) (marks80 m)) : RdB w (.slice (some ⟨g, 0, none⟩) m.length cap) m := by
  have hn := h.len
  obtain ⟨g', cap', e, _, _, h1, h2⟩ := h.at (by rw [marks80_length]; omega)
  rw [marks80_length] at hn h1
  injection e with e1 e2 e3
  subst e3
  refine .mk (by omega) h2 ?_
  have := (h.bytes).take m.length
  rwa [marks80, List.take_left' rfl] at this
set_option maxRecDepth 100000 in
set_option maxHeartbeats 3200000 in
theorem law_sums256 (w : World) (v : Value) (m : List (BitVec 8)) (hv : RdB w v m) (hm : m.length ≤ 140737488355232) (hg : Gl256 w) (hf : GlFirst256 w) :
    Calls Tryd.prog 5 #[v] w fun e w' => e = .returned (.bool true) ∧ Upd [] w w' := by
  obtain ⟨A, c, rfl, hc1, hc2⟩ := hv.isSlice
  obtain ⟨H, hH⟩ : ∃ H, sha256 m = H := ⟨_, rfl⟩
  have hHl : H.length = 32 := by rw [← hH]; exact sha256_length m
  have hne : (H != H) = false := by simp
  have hq1 := fun w => neq_h32 H H hHl hHl w
  have hs1 := fun w v h1 h3 h4 => sum256 w v m h1 (by omega) h3 h4
  have hs2 := fun w v h1 => refsum256 w v m h1 hm
  rw [hH] at hs1 hs2
  rw [hne] at hq1
  have S1 := Lib.hid hs1
  have S2 := Lib.hid hs2
  have HV := Lib.hid hv
  have HG := Lib.hid hg
  have HF := Lib.hid hf
  have hgd := guard_h32
  clear hs1 hs2 hH hv hg hf hne
  go_enter Tryd.func5, Tryd.ntmps5
  go_upto_region 2 with (go_at_call 19; refine (marked02 _ _ m HV.out hm).mono ?_; rintro e w1 ⟨g, cap, rfl, hO1, hU1⟩)
  have HO1 := Lib.hid hO1
  have hgl := hO1.lt g rfl
  have hcap : m.length + 80 ≤ cap := by
    obtain ⟨_, _, e, _, _, h1, _⟩ := hO1.at (by rw [marks80_length]; omega)
    injection e with _ _ e3
    subst e3
    rwa [marks80_length] at h1
  clear hO1
  go_upto_region 4 with (first
    | (go_at_call 20; refine (S1.out _ _ (rd_marked HO1.out) (HG.out.upd hU1 (by simp)) (HF.out.upd hU1 (by simp))).mono ?_; rintro e w2 ⟨rfl, hU2⟩)
    | (go_at_call 21; refine (S2.out _ _ ((HV.out.upd0 hU1).upd0 hU2)).mono ?_; rintro e w3 ⟨rfl, hU3⟩)
    | (go_at_call 22; refine (left02 _ _ m g 0 cap (((HV.out.upd0 hU1).upd0 hU2).upd0 hU3) (((HO1.out.bytes).upd hU2 (by simp)).upd hU3 (by simp)) hcap hm).mono ?_; rintro e w4 ⟨rfl, q4, rfl⟩))
  have hU5 : Upd [] w (w3.drewN q4) := (((hU1.trans hU2).trans hU3)).drewN q4
  have hO5 : OwnB (w3.drewN q4) w.heap.size (.slice (some ⟨g, 0, none⟩) (m.length + 80) cap) (stirTo m 0) := by
    rw [stirTo_zero]; exact ((HO1.out.upd0 hU2).upd0 hU3).drew q4
  obtain ⟨w5, hw5⟩ : ∃ w5, w3.drewN q4 = w5 := ⟨_, rfl⟩
  rw [hw5] at hU5 hO5 ⊢
  obtain ⟨n, hn⟩ : ∃ n, m.length = n := ⟨_, rfl⟩
  have hcm : cap ≤ maxLen := by
    obtain ⟨_, _, e, _, _, _, h1⟩ := hO5.at (by rw [stirTo_length _ _ (by omega)]; omega)
    injection e with _ _ e3
    subst e3
    exact h1
  obtain ⟨C, hC⟩ : ∃ C, w5.heap.size = C := ⟨_, rfl⟩
  have hgC : g < C := by have := (hO5.lt g rfl).2; omega
  rw [hn] at hO5 hm hcap ⊢
  have HN := Lib.hid hn
  have HC := Lib.hid hC
  have HO5 := Lib.hid hO5
  clear hw5 hn hC hO5 hU1 hU2 hU3 HV S1 S2 hq1 hHl HO1 hc1
  go_upto_block 0 with (fail)
  go_wp2
  go_loopw [4, 5] (fun x i wr => ∃ k : Nat, k ≤ n ∧ i = .int .i64 k ∧ Hid (OwnB wr w.heap.size (.slice (some ⟨g, 0, none⟩) (n + 80) cap) (stirTo m k)) ∧ OwnB wr C x ((stirred m).take k) ∧ Upd [] w wr ∧ C ≤ wr.heap.size) (fun _ i _ => n - (intOf i).toNat)
  case atStart => exact ⟨0, by omega, rfl, HO5, by simpa using OwnB.nil _ _, hU5, by have := HC.out; omega⟩
  case round =>
    obtain ⟨k, hk, rfl, HK, hX, hU, hCs⟩ := hrel
    by_cases h : k < n
    · have hkm : k < m.length := by have := HN.out; omega
      have hsl := stirTo_length m k (by omega)
      have hc0 : wr.cell? ⟨g, k, none⟩ = some (U8 m[k]) := by
        rw [← stirTo_get m k hkm]; exact OwnB.cell HK.out k (by omega)
      have hf0 := OwnB.frozen HK.out k (by omega)
      have hset := OwnB.set HK.out k (by omega) (m[k] ^^^ BitVec.ofInt 8 ((k : Int) + 1))
      rw [stirTo_step m k hkm] at hset
      have hget := stirred_get m k hkm
      obtain ⟨y, hy⟩ : ∃ y, m[k] = y := ⟨_, rfl⟩
      rw [hy] at hc0 hset hget
      have HY := Lib.hid hy
      have HSET := Lib.hid hset
      have HGET := Lib.hid hget
      have hll : ((stirred m).take k).length ≤ 140737488355320 := by simp [stirred_length]; omega
      have hki : (k : Int) < (n : Int) := by omega
      clear hy hset hget hsl
      have hX2 : OwnB (wr.setCell ⟨g, k, none⟩ (U8 (y ^^^ BitVec.ofInt 8 ((k : Int) + 1)))) C u4 ((stirred m).take k) := hX.upd ((Upd.refl [g] wr).setCell _ _ (by simp)) (fun j hj hm => by have := (hX.lt j hj).1; simp at hm; omega)
      go_wp2_with (first | (at_builtin; refine append_byte_at rfl _ _ rfl C u4 _ (by rfl) (wr.setCell ⟨g, k, none⟩ (U8 (y ^^^ BitVec.ofInt 8 ((k : Int) + 1)))) (y ^^^ BitVec.ofInt 8 ((k : Int) + 1)) wr.heap.size (by simp [World.setCell]) rfl hX2 (by rfl) (by omega) (by simpa [World.setCell] using hCs) ?_; intro v2 w6 hO2 _ hU2 _))
      have e2 : (stirred m).take k ++ [y ^^^ BitVec.ofInt 8 ((k : Int) + 1)] = (stirred m).take (k + 1) := by
        rw [List.take_succ_eq_append_getElem (by rw [stirred_length]; exact hkm), HGET.out]
      rw [e2] at hO2
      have hK2 := HSET.out.upd hU2 (fun j hj hm => by simp [Value.ownBlock] at hj; subst hj; have := (hX.lt g (by simpa using hm)).1; omega)
      have hs : C ≤ w6.heap.size := by have := hU2.size; simp [World.setCell] at this; omega
      have hUU : Upd [] w w6 := by
        refine (hU.setCell ⟨g, k, none⟩ (U8 (y ^^^ BitVec.ofInt 8 ((k : Int) + 1))) (by simp; omega)).row hU2 (fun j hj => ?_)
        have := (hX.lt j hj).1
        have := hU5.size
        have := HC.out
        omega
      have HK2 := Lib.hid hK2
      clear hK2 hX hX2 hU2
      go_roundw
      case rel => exact ⟨k + 1, by omega, by go_num, HK2, hO2, hUU, hs⟩
      case measure => simp [intOf]; omega
    · obtain rfl : k = n := by omega
      obtain ⟨S, hS⟩ : ∃ S, stirred m = S := ⟨_, rfl⟩
      have hSl : S.length = k := by rw [← hS, stirred_length]; exact HN.out
      have hSt : stirTo m k = marks80 S := by rw [← hS, ← HN.out]; exact stirTo_all m
      have hK := HK.out
      rw [hSt] at hK
      rw [hS, List.take_of_length_le (by omega)] at hX
      obtain ⟨H2, hH2⟩ : ∃ H, sha256 S = H := ⟨_, rfl⟩
      have hHl : H2.length = 32 := by rw [← hH2]; exact sha256_length S
      have hne : (H2 == H2) = true := by simp
      have hq1 := fun w => eql_h32 H2 H2 hHl hHl w
      have hs1 := fun w v h1 h3 h4 => sum256 w v S h1 (by omega) h3 h4
      have hs2 := fun w v h1 => refsum256 w v S h1 (by omega)
      rw [hH2] at hs1 hs2
      rw [hne] at hq1
      have hrd : RdB wr (.slice (some ⟨g, 0, none⟩) k cap) S := by have := rd_marked hK; rwa [hSl] at this
      have hby := hK.bytes
      have hgs : g < wr.heap.size := by omega
      have S1 := Lib.hid hs1
      have S2 := Lib.hid hs2
      have HRD := Lib.hid hrd
      have HX := Lib.hid hX
      have HBY := Lib.hid hby
      have HLEFT := Lib.hid (fun w v h1 h2 => left02 w v S g 0 cap h1 h2 (by omega) (by omega))
      have HSL := Lib.hid hSl
      clear hs1 hs2 hH2 hne hrd hX hby hK hS hSl hSt HK
      go_wp2_with (first
        | (go_at_call 20; refine (S1.out _ _ HRD.out (HG.out.upd hU (by simp)) (HF.out.upd hU (by simp))).mono ?_; rintro e w7 ⟨rfl, hU7⟩)
        | (go_at_call 21; refine (S2.out _ _ (HX.out.rd.upd0 hU7)).mono ?_; rintro e w8 ⟨rfl, hU8⟩)
        | (go_at_call 22; rw [← HSL.out]; refine (HLEFT.out _ _ ((HX.out.rd.upd0 hU7).upd0 hU8) ((HBY.out.upd hU7 (by simp)).upd hU8 (by simp))).mono ?_; rintro e w9 ⟨rfl, q9, rfl⟩))
      go_ret
      exact ⟨rfl, ((hU.trans hU7).trans hU8).drewN q9⟩
end Go.Proofs.YtdejiachopiaaaaDoor
