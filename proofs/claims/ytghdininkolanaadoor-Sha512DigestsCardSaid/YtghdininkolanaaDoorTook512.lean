/-
  The law's pairs of sha512: took, told.
-/
import Derived.Test.YtghdininkolanaaDoorDigSum512
import Derived.Test.YtghdininkolanaaDoorRefSum512
import Derived.Test.YtghdininkolanaaDoorEqWide
import Derived.Test.YtghdininkolanaaDoorRoomy
import Derived.Test.YtghdininkolanaaDoorSame03
import Derived.Test.YtghdininkolanaaDoorGen
namespace Go.Proofs.YtghdininkolanaaDoor
open Go Go.RowKit Go.Proofs
theorem DigOf512.lt {w : World} {D : Nat} {m : List (BitVec 8)} (h : DigOf512 w D m) : D < w.heap.size := by obtain ⟨_, _, ⟨_, h⟩, _⟩ := h; exact lt_of_heap h
theorem own_dig512 {w : World} {B D : Nat} {v : Value} {l m : List (BitVec 8)} (h : OwnB w B v l) (hd : DigOf512 w D m) : v.ownBlock ≠ some D := by
  obtain ⟨s, r, ⟨_, hb⟩, _⟩ := hd
  rcases h.2 with ⟨rfl, _⟩ | ⟨g, cap, cur, rfl, _, hg, _⟩
  · simp [Value.ownBlock]
  · intro he
    simp [Value.ownBlock] at he
    subst he
    rw [hg] at hb
    injection hb with hb
    injection hb with _ ht
    exact absurd ht (by decide)
theorem own_pair3 {w : World} {B g : Nat} {v : Value} {l : List (BitVec 8)} (h : OwnB w B v l) {cur : Array Value} (hb : w.heap[g]? = some (.cells cur 38 (0, 0))) : v.ownBlock ≠ some g := by
  rcases h.2 with ⟨rfl, _⟩ | ⟨g', cap, cur', rfl, _, hg, _⟩
  · simp [Value.ownBlock]
  · intro he
    simp [Value.ownBlock] at he
    subst he
    rw [hg] at hb
    injection hb with hb
    injection hb with _ ht
    exact absurd ht (by decide)
theorem dig_pair3 {w : World} {D g : Nat} {m : List (BitVec 8)} (hd : DigOf512 w D m) {cur : Array Value} (hb : w.heap[g]? = some (.cells cur 38 (0, 0))) : D ≠ g := by
  obtain ⟨s, r, ⟨_, h1⟩, _⟩ := hd
  rintro rfl
  rw [h1] at hb
  injection hb with hb
  injection hb with _ ht
  exact absurd ht (by decide)
theorem size_bytesv : (Tryd.prog.info? 25).map (·.size) = some 1 := by kernel_rfl
theorem slice_to {P : Program} (W : World) (t size : Nat) (g n c j : Nat) (hj : j ≤ n) (hnc : n ≤ c) (ht : P.underlying t = some (.slice (P.elem t))) (hs : (P.info? (P.elem t)).map (·.size) = some size) :
    (Instr.sliceAt t (.slice (some ⟨g, 0, none⟩) n c) none (some (.int .i64 (j : Int))) none).run P W = .ok (.slice (some ⟨g, 0, none⟩) j c) W := by
  have := run_cut (P := P) W t size ht hs (some ⟨g, 0, none⟩) n c 0 j none (some (.int .i64 (j : Int))) (.inl ⟨rfl, rfl⟩) (.inr rfl) (by omega) hj hnc
  rw [this]
  congr 2
  simp [Addr.add]
set_option maxRecDepth 100000 in
set_option maxHeartbeats 12800000 in
theorem took03 (w : World) (B gq r D cp : Nat) (Ap : Option Addr) (pa : Value) (C : Array Value) (m d : List (BitVec 8)) (hh : w.heap[gq]? = some (.cells C 38 (0, 0))) (hc0 : C[r * 2]? = some (.pointer (some ⟨D, 0, none⟩))) (hc1 : C[r * 2 + 1]? = some pa)
    (hD : DigOf512 w D m) (hA : OwnB w B pa m) (hBw : B ≤ w.heap.size) (hv : ∀ W, Upd [gq, D] w W → RdB W (.slice Ap d.length cp) d) (hm : m.length ≤ 200000) (hd : d.length ≤ 200000) (hg : Gl512 w) (hgD : D ≠ 5) (hgq : gq ≠ 5) :
    Calls Tryd.prog 10 #[.pointer (some ⟨gq, r * 2, none⟩), .slice Ap d.length cp] w fun e w' => e = .returned (.bool true) ∧ ∃ a', w'.heap[gq]? = some (.cells (C.setIfInBounds (r * 2 + 1) a') 38 (0, 0)) ∧ DigOf512 w' D (m ++ d) ∧ OwnB w' B a' (m ++ d) ∧ (∀ i, a'.ownBlock = some i → w.heap.size ≤ i) ∧ Upd [gq, D] w w' := by
  have hr1 : r * 2 + 1 < C.size := (Array.getElem?_eq_some_iff.1 hc1).1
  have hne1 := dig_pair3 hD hh
  have hne2 := own_dig512 hA hD
  have hne3 := own_pair3 hA hh
  have hgl := lt_of_heap hh
  have hDl := hD.lt
  obtain ⟨Aa, ca, ea⟩ := hA.isSlice
  obtain ⟨L, hL⟩ : ∃ L, d.length = L := ⟨_, rfl⟩
  obtain ⟨M, hM⟩ : ∃ M, m.length = M := ⟨_, rfl⟩
  rw [hM] at ea
  rw [hL]
  have HV : Hid (∀ W, Upd [gq, D] w W → RdB W (.slice Ap d.length cp) d) := hv
  have HLL := Lib.hid hL
  have HMM := Lib.hid hM
  have HA := Lib.hid hA
  have HDD := Lib.hid hD
  have HH := Lib.hid hh
  have HEA := Lib.hid ea
  have HG := Lib.hid hg
  have HN1 : Hid (D ≠ gq ∧ gq < w.heap.size ∧ D < w.heap.size ∧ r * 2 + 1 < C.size ∧ B ≤ w.heap.size) := ⟨hne1, hgl, hDl, hr1, hBw⟩
  have HN2 : Hid (∀ i, pa.ownBlock = some i → i ≠ D ∧ i ≠ gq ∧ i < w.heap.size) := fun i hi => ⟨fun e => hne2 (by rw [hi, e]), fun e => hne3 (by rw [hi, e]), (hA.lt i hi).2⟩
  have HLB : Hid (L ≤ 200000 ∧ M ≤ 200000) := ⟨by omega, by omega⟩
  have HC0 := Lib.hid hc0
  have HC1 := Lib.hid hc1
  have HGD : Hid (D ≠ 5 ∧ gq ≠ 5) := ⟨hgD, hgq⟩
  have HRM : Hid (∀ W, Upd [gq, D] w W → Calls Tryd.prog 27 #[.slice Ap L cp] W fun e w' => ∃ g cap, e = .returned (.slice (some ⟨g, 0, none⟩) (L + 64) cap) ∧ OwnB w' W.heap.size (.slice (some ⟨g, 0, none⟩) (L + 64) cap) (room64 d) ∧ Upd [] W w') := fun W hW => by
    have h := roomy03 W _ d (hv W hW) (by omega)
    rwa [hL] at h
  have li : (L : Int) ≤ 200000 := by omega
  clear hv hL hM hA hD hh ea hg hne1 hgl hDl hr1 hBw hne2 hne3 hc0 hc1 hgD hgq hm hd
  go_enter Tryd.func10, Tryd.ntmps10
  go_wp2_with (fail)
  with_reducible refine (HRM.out _ (Upd.refl _ _)).mono ?_
  rintro e w1 ⟨g1, c1, rfl, hO1, hU1⟩
  have hc1' : L + 64 ≤ c1 ∧ c1 ≤ maxLen := by
    obtain ⟨_, _, e4, _, _, h1, h2⟩ := hO1.at (by rw [room64_length]; omega)
    injection e4 with _ _ e4
    rw [room64_length, HLL.out, ← e4] at h1
    rw [← e4] at h2
    exact ⟨h1, h2⟩
  have hg1 := hO1.lt g1 rfl
  have lc1 : (L : Int) + 64 ≤ (c1 : Int) := by omega
  have lc2 : (c1 : Int) ≤ 9223372036854775807 := by have := hc1'.2; unfold maxLen at this; omega
  have HCC := Lib.hid hc1'
  have HG1 : Hid (w.heap.size ≤ g1 ∧ g1 < w1.heap.size) := hg1
  have HQ0 : Hid (∀ W, Upd [] w1 W → W.cell? ⟨gq, r * 2, none⟩ = some (.pointer (some ⟨D, 0, none⟩))) := fun W hW => by
    rw [cell_of_row _ _ _ _ _ _ ((hU1.trans hW).heap HH.out (by simp))]; exact HC0.out
  have HO1 := Lib.hid hO1
  have HU1 := Lib.hid hU1
  clear hc1' hg1 hO1 hU1
  go_upto_region 2 with (fail)
  refine wp_region_quiet_tail 8 (Upd [] w1) (by kernel_rfl) (by kernel_rfl) (Upd.refl _ _).drew ?_
  simp only [List.take_succ_cons, List.take_zero, List.drop_succ_cons, List.drop_zero]
  repeat (first
    | (refine wpQuiet_valK rfl (quiet_of_yields (yields_cell (p := ⟨gq, r * 2, none⟩) rfl HQ0.out Tryd.underlying36 rfl)) (fun K hK => ?_); go_simp; refine hK _ ?_; clear hK K)
    | (refine wpQuiet_step (fun K hK => ?_)
       go_simp
       first
         | (refine ⟨_, fun _ _ => rfl, hK _ ?_⟩; clear hK K)
         | (refine hK _ ?_; clear hK K))
    | (refine wpQuiet_valK rfl (quiet_of_yields (yields_slice (v := .slice (some ⟨g1, 0, none⟩) (L + 64) c1) (u := .slice (some ⟨g1, 0, none⟩) L c1) rfl rfl rfl rfl (fun W => slice_to W 25 1 g1 (L + 64) c1 L (by omega) HCC.out.1 (by rw [elem_bytes]; exact Tryd.underlying25) (by rw [elem_bytes]; kernel_rfl)))) (fun K hK => ?_); go_simp; refine hK _ ?_; clear hK K))
  refine wpQuiet_nil ?_
  intro w2 hU2
  have hV2 := HU1.out.trans hU2
  have hO2 := HO1.out.upd0 hU2
  have hR2 : RdB w2 (.slice (some ⟨g1, 0, none⟩) L c1) d := by
    have := rd_room hO2
    rwa [HLL.out] at this
  go_wp2_with (fail)
  refine (write512 _ D _ m d (HDD.out.upd hV2 (by simp)) hR2 (fun _ => by have := HG1.out; have := HN1.out; simp [Value.ownBlock]; omega) (by have := HLB.out; have := HLL.out; omega) (HG.out.upd hV2 (by simp)) HGD.out.1).mono ?_
  rintro e w3 ⟨⟨y3, rfl⟩, hD3, hU3⟩
  have hV3 : Upd [gq, D] w w3 := hV2.of0.trans' hU3 (fun i hm _ => by rw [List.mem_singleton.1 hm]; simp)
  have hO3 := hO2.upd hU3 (fun i hi hm => by have := HG1.out; have := HN1.out; have := List.mem_singleton.1 hm; simp [Value.ownBlock] at hi; omega)
  have hA3 := (HA.out.upd0 hV2).upd hU3 (fun i hi hm => by have := HN2.out i hi; have := List.mem_singleton.1 hm; omega)
  have HD3 := Lib.hid hD3
  have HV3 := Lib.hid hV3
  have HO3 := Lib.hid hO3
  have HH3 : Hid (w3.heap[gq]? = some (.cells C 38 (0, 0))) := hU3.heap (hV2.heap HH.out (by simp)) (fun hm => by have := HN1.out; have := List.mem_singleton.1 hm; omega)
  have HA3 := Lib.hid hA3
  clear hD3 hV3 hO3 hA3 hO2 hV2 hU2 hU3 hR2
  go_upto_region 3 with (fail)
  go_wp2_with (fail)
  with_reducible refine (HRM.out _ HV3.out).mono ?_
  rintro e w4 ⟨g4, c4, rfl, hO4, hU4⟩
  have hO34 := HO3.out.upd0 hU4
  have HU4 := Lib.hid hU4
  clear hU4
  go_wp2_with (fail)
  have hsm := same03 w4 _ _ _ _ hO34.read hO4.read (by rw [room64_length]; have := HLB.out; have := HLL.out; omega) (by rw [room64_length]; have := HLB.out; have := HLL.out; omega)
  rw [show (room64 d == room64 d) = true by simp] at hsm
  refine hsm.mono ?_
  rintro e w5 ⟨rfl, n5, rfl⟩
  obtain ⟨w6, hw6⟩ : ∃ W, w4.drewN n5 = W := ⟨_, rfl⟩
  have hU6 : Upd [] w3 w6 := by rw [← hw6]; exact HU4.out.drewN n5
  rw [hw6]
  have HO6 := Lib.hid (HO3.out.upd0 hU6)
  have HD6 := Lib.hid (HD3.out.upd hU6 (by simp))
  have HH6 : Hid (w6.heap[gq]? = some (.cells C 38 (0, 0))) := hU6.heap HH3.out (by simp)
  have HA6 := Lib.hid (HA3.out.upd0 hU6)
  have HV6 := Lib.hid (HV3.out.trans0 hU6)
  clear hsm hO34 hO4 hw6 HU4 hU6 HO3 HD3 HH3 HA3 HV3 HO1 HU1 HQ0
  go_upto_region 4 with (fail)
  go_wp2_with (fail)
  go_loopw [7] (fun iv wr => ∃ (j : Nat) (q : List (BitVec 8)), j ≤ L + 64 ∧ iv = .int .i64 j ∧ q.length = L + 64 ∧ OwnB wr w.heap.size (.slice (some ⟨g1, 0, none⟩) (L + 64) c1) q ∧ Upd [g1] w6 wr) (fun iv _ => L + 64 - (intOf iv).toNat)
  case atStart => exact ⟨0, _, by omega, rfl, by rw [room64_length, HLL.out], HO6.out, Upd.refl _ _⟩
  case round =>
    obtain ⟨j, q2, hj, rfl, hql, hOq, hUq⟩ := hrel
    by_cases h : j < L + 64
    · have jl : (j : Int) < (L : Int) + 64 := by omega
      have jl2 : j < L + 64 := h
      have hjq : j < q2.length := by omega
      have hfr := hOq.frozen j hjq
      have hce := hOq.cell j hjq
      have hO2 := hOq.set j hjq 0
      have HQL := Lib.hid hql
      clear hql
      go_wp2_with (fail)
      go_roundw
      case rel => exact ⟨j + 1, q2.set j 0, by omega, by go_num, by have := HQL.out; simp; omega, hO2, hUq.setCell _ _ (by simp)⟩
      case measure => simp [intOf]; omega
    · have jl : ¬ (j : Int) < (L : Int) + 64 := by omega
      obtain ⟨w9, hw9⟩ : ∃ W, wr = W := ⟨_, rfl⟩
      rw [hw9] at hOq hUq ⊢
      have hN : ∀ i ∈ [g1], w.heap.size ≤ i := fun i hi => by rw [List.mem_singleton.1 hi]; exact HG1.out.1
      have hh9 := hUq.heap HH6.out (fun hm => by have := hN _ hm; have := HN1.out; omega)
      have hD9 := HD6.out.upd hUq (fun hm => by have := hN _ hm; have := HN1.out; omega)
      have hA9 := HA6.out.upd hUq (fun i hi hm => by have := hN _ hm; have := HN2.out i hi; omega)
      have hV9 := HV6.out.trans' hUq (fun i hm hl => by have := hN _ hm; omega)
      have cA9 : w9.cell? ⟨gq, r * 2 + 1, none⟩ = some (.slice Aa M ca) := by rw [cell_of_row _ _ _ _ _ _ hh9, ← HEA.out]; exact HC1.out
      rw [HEA.out] at hA9
      have HH9 := Lib.hid hh9
      have HD9 := Lib.hid hD9
      have HA9 := Lib.hid hA9
      have HV9 := Lib.hid hV9
      have hlt9 : w9.heap.size ≤ w9.heap.size := Nat.le_refl _
      have HSW : Hid (w.heap.size ≤ w9.heap.size) := hV9.size
      clear hOq hUq hj h hw9 hN hh9 hD9 hA9 hV9 hlt9 HO6 HD6 HH6 HA6 HV6 hql
      go_upto_region 9 with (fail)
      try go_simp
      go_wp2_with (at_builtin; refine append_rd rfl _ _ rfl w9.heap.size (.slice none 0 0) [] (by with_unfolding_all exact rfl) (OwnB.nil _ _) _ m (by with_unfolding_all exact rfl) HA9.out.rd (by have := HLB.out; have := HMM.out; simp; omega) (Nat.le_refl _) ?_)
      intro v10 w10 hN10 _ hU10 _
      try simp only [List.nil_append] at hN10
      have hU10' : Upd [] w9 w10 := hU10.mono (by simp [Value.ownBlock])
      have HS910 : Hid (w9.heap.size ≤ w10.heap.size) := hU10'.size
      have hV10 := HV9.out.trans0 hU10'
      have hRd := HV.out _ hV10
      rw [HLL.out] at hRd
      have HRD := Lib.hid hRd
      have HN10 := Lib.hid hN10
      have HL10 : Hid (∀ i ∈ v10.ownBlock.toList, w9.heap.size ≤ i) := fun i hi => (HN10.out.lt i (by simpa using hi)).1
      have HH10 := Lib.hid (hU10'.heap HH9.out (by simp))
      have HD10 := Lib.hid (HD9.out.upd hU10' (by simp))
      have HV10 := Lib.hid hV10
      clear hU10 cA9 hU10' hRd hN10 hV10 HH9 HD9 HV9 HA9
      go_upto_region 10 with (fail)
      try go_simp
      go_wp2_with (at_builtin; refine append_rd rfl _ _ rfl w9.heap.size v10 m (by with_unfolding_all exact rfl) HN10.out _ d (by with_unfolding_all exact rfl) HRD.out (by have := HLB.out; have := HMM.out; have := HLL.out; omega) HS910.out ?_)
      intro v11 w11 hO11 _ hU11 _
      have hh11 : w11.heap[gq]? = some (.cells C 38 (0, 0)) := hU11.heap HH10.out (fun hm => by have := HL10.out _ hm; have := HN1.out; have := HSW.out; omega)
      have HD11 := Lib.hid (HD10.out.upd hU11 (fun hm => by have := HL10.out _ hm; have := HN1.out; have := HSW.out; omega))
      have HV11 := Lib.hid (HV10.out.trans' hU11 (fun i hm hl => by have := HL10.out _ hm; have := HSW.out; omega))
      obtain ⟨A11, c11, e11⟩ := hO11.isSlice
      have hv11c : v11.cells = #[v11] := by rw [e11]; rfl
      have hv11o : v11.oneCell' = true := by rw [e11]; rfl
      have hrC := HN1.out.2.2.2.1
      have HO11 := Lib.hid hO11
      clear e11 hU11 hO11
      go_wp2_with (with_reducible refine arm_store_at (by with_unfolding_all exact rfl) (by with_unfolding_all exact rfl) hh11 hrC hv11c size_bytesv hv11o ?_)
      intro w12 hh12 hX12 hz12
      clear hh11 hz12 hrC
      go_wp2_with (fail)
      go_ret
      refine ⟨rfl, v11, hh12, HD11.out.upd hX12 (fun hm => by have := HN1.out; have := List.mem_singleton.1 hm; omega), (HO11.out.mono (fun i hi => by have := (HO11.out.lt i hi).1; have := HSW.out; have := HN1.out; omega)).upd hX12 (fun i hi hm => by have := (HO11.out.lt i hi).1; have := HSW.out; have := HN1.out; have := List.mem_singleton.1 hm; omega), fun i hi => by have := (HO11.out.lt i hi).1; have := HSW.out; omega, HV11.out.trans' hX12 (fun i hm _ => by rw [List.mem_singleton.1 hm]; simp)⟩

end Go.Proofs.YtghdininkolanaaDoor
