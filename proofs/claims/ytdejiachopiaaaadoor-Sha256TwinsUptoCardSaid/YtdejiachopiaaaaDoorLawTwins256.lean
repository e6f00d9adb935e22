/-
  The law Sha256Twins: for all three byte strings (up to 2^20 bytes each) it returns true and makes only new memory.
-/
import Derived.Test.YtdejiachopiaaaaDoorKnown256
import Derived.Test.YtdejiachopiaaaaDoorRegion
namespace Go.Proofs.YtdejiachopiaaaaDoor
open Go Go.RowKit Go.Proofs
theorem cloneof256 (w : World) (b : Nat) (m : List (BitVec 8)) (h : DigOf256 w b m) : Calls Tryd.prog 40 #[.pointer (some ⟨b, 0, none⟩)] w fun e w' => e = .returned (.pointer (some ⟨w.heap.size, 0, none⟩)) ∧ DigOf256 w' w.heap.size m ∧ Upd [] w w' := by
  obtain ⟨s, r, h1, h2⟩ := h
  exact (clone256 w b s r _ h1).mono fun e w' ⟨he, hd, hu⟩ => ⟨he, ⟨s, r, hd, h2⟩, hu⟩
theorem resetof256 (w : World) (b : Nat) (m : List (BitVec 8)) (h : DigOf256 w b m) (hg : GlFirst256 w) : Calls Tryd.prog 41 #[.pointer (some ⟨b, 0, none⟩)] w fun e w' => (∃ v, e = .returned v) ∧ DigOf256 w' b [] ∧ Upd [b] w w' := by
  obtain ⟨s, r, h1, h2⟩ := h
  exact (reset256 w b s r _ h1 hg).mono fun e w' ⟨he, hd, hu⟩ => ⟨he, .new hd, hu⟩
theorem lenof256 (w : World) (b : Nat) (m : List (BitVec 8)) (h : DigOf256 w b m) : Calls Tryd.prog 31 #[.pointer (some ⟨b, 0, none⟩)] w fun e w' => e = .returned (U64 (BitVec.ofNat 64 m.length)) ∧ w = w' := by
  obtain ⟨s, r, h1, _⟩ := h
  exact len256 w b s r _ h1
theorem neq_h32_same (m : List (BitVec 8)) (w : World) : (binOp .neq 39 (.agg ((sha256 m).map U8).toArray) (.agg ((sha256 m).map U8).toArray)).run Tryd.prog w = .ok (.bool false) w := by
  have := neq_h32 (sha256 m) (sha256 m) (sha256_length m) (sha256_length m) w
  rwa [show (sha256 m != sha256 m) = false by simp] at this
theorem eql_h32_same (m : List (BitVec 8)) (w : World) : (binOp .eql 39 (.agg ((sha256 m).map U8).toArray) (.agg ((sha256 m).map U8).toArray)).run Tryd.prog w = .ok (.bool true) w := by
  have := eql_h32 (sha256 m) (sha256 m) (sha256_length m) (sha256_length m) w
  rwa [show (sha256 m == sha256 m) = true by simp] at this
set_option maxRecDepth 100000 in
set_option maxHeartbeats 6400000 in
theorem law_twins256 (w : World) (v0 v1 v2 : Value) (m0 m1 m2 : List (BitVec 8)) (h0 : RdB w v0 m0) (h1 : RdB w v1 m1) (h2 : RdB w v2 m2) (l0 : m0.length ≤ 1048576) (l1 : m1.length ≤ 1048576) (l2 : m2.length ≤ 1048576) (hg : Gl256 w) (hf : GlFirst256 w) :
    Calls Tryd.prog 10 #[v0, v1, v2] w fun e w' => e = .returned (.bool true) ∧ Upd [] w w' := by
  have H0 := Lib.hid h0
  have H1 := Lib.hid h1
  have H2 := Lib.hid h2
  have HG := Lib.hid hg
  have HF := Lib.hid hf
  have hgl := hg.lt
  have hfl := hf.lt
  have hqg := guard_h32
  obtain ⟨B, hB⟩ : ∃ B, w.heap.size = B := ⟨_, rfl⟩
  have hap : ∀ (v : Value) (m : List (BitVec 8)) (D : Nat), RdB w v m → B ≤ D → 0 < m.length → v.ownBlock ≠ some D := fun v m D h hD hp e => by
    have := h.lt hp D e; omega
  have HAP := Lib.hid hap
  have HB := Lib.hid hB
  rw [hB] at hgl hfl
  clear h0 h1 h2 hg hf hap
  go_enter Tryd.func10, Tryd.ntmps10
  go_upto_region 4 with (go_at_call 26; refine (new256 _ HF.out).mono ?_; rintro e w1 ⟨rfl, hD1, hU1⟩)
  have hD := DigOf256.new hD1
  rw [hB] at hD
  clear hD1 hB
  go_wp2_with fail
  refine (write256 _ B v0 [] m0 hD (H0.out.upd0 hU1) (HAP.out v0 m0 B H0.out (Nat.le_refl _)) (by simp; omega) (by omega) (HG.out.upd hU1 (by simp)) (by omega)).mono ?_
  rintro e2 w2 ⟨⟨y2, rfl⟩, hD2, hU2'⟩
  have hU2 : Upd [] w w2 := hU1.trans' hU2' (fun i hi hlt => by simp at hi; have := HB.out; omega)
  rw [List.nil_append] at hD2
  clear hD hU1 hU2'
  go_wp2_with fail
  refine (cloneof256 _ B m0 hD2).mono ?_
  rintro e3 w3 ⟨rfl, hE3, hU3'⟩
  obtain ⟨C, hC⟩ : ∃ C, w2.heap.size = C := ⟨_, rfl⟩
  have hBC : B < C := by obtain ⟨_, _, ⟨_, h⟩, _⟩ := hD2; have := lt_of_heap h; omega
  rw [hC] at hE3 ⊢
  have hD3 := hD2.upd hU3' (by simp)
  have hU3 : Upd [] w w3 := hU2.trans hU3'
  clear hD2 hU2 hU3' hC
  go_upto_region 8 with (fail)
  go_wp2_with fail
  refine (write256 _ B v1 m0 m1 hD3 (H1.out.upd0 hU3) (HAP.out v1 m1 B H1.out (Nat.le_refl _)) (by omega) (by omega) (HG.out.upd hU3 (by simp)) (by omega)).mono ?_
  rintro e4 w4 ⟨⟨y4, rfl⟩, hD4, hU4'⟩
  have hU4 : Upd [] w w4 := hU3.trans' hU4' (fun i hi hlt => by simp at hi; have := HB.out; omega)
  have hE4 := hE3.upd hU4' (by simp; omega)
  clear hD3 hE3 hU3 hU4'
  go_wp2_with fail
  refine (write256 _ C v2 m0 m2 hE4 (H2.out.upd0 hU4) (HAP.out v2 m2 C H2.out (by omega)) (by omega) (by omega) (HG.out.upd hU4 (by simp)) (by omega)).mono ?_
  rintro e5 w5 ⟨⟨y5, rfl⟩, hE5, hU5'⟩
  have hU5 : Upd [] w w5 := hU4.trans' hU5' (fun i hi hlt => by simp at hi; have := HB.out; omega)
  have hD5 := hD4.upd hU5' (by simp; omega)
  clear hD4 hE4 hU4 hU5'
  obtain ⟨S, hS⟩ : ∃ S, w5.heap.size = S := ⟨_, rfl⟩
  have hCS : C < S := by obtain ⟨_, _, ⟨_, h⟩, _⟩ := hE5; have := lt_of_heap h; omega
  have HS := Lib.hid hS
  clear hS
  go_upto_region 12 with (first | (at_builtin; refine append_rd rfl _ _ rfl S (.slice none 0 0) [] (by rfl) (OwnB.nil _ _) v0 m0 (by rfl) (H0.out.upd0 hU5) (by simp; omega) (by have := HS.out; omega) ?_; intro a6 w6 hO6 _ hU6' _; simp only [List.nil_append] at hO6))
  have hU6 : Upd [] w5 w6 := hU6'.mono (by simp [Value.ownBlock])
  clear hU6'
  go_upto_region 13 with (first | (at_builtin; refine append_rd rfl _ _ rfl S a6 m0 (by rfl) hO6 v1 m1 (by rfl) ((H1.out.upd0 hU5).upd0 hU6) (by omega) (by have := HS.out; have := hU6.size; omega) ?_; intro a7 w7 hO7 _ hU7' _))
  have hU7 : Upd [] w5 w7 := hU6.row hU7' (fun g hg => by have := (hO6.lt g hg).1; have := HS.out; omega)
  clear hU7' hO6 hU6
  obtain ⟨S2, hS2⟩ : ∃ S, w7.heap.size = S := ⟨_, rfl⟩
  have HS2 := Lib.hid hS2
  clear hS2
  go_upto_region 14 with (first | (at_builtin; refine append_rd rfl _ _ rfl S2 (.slice none 0 0) [] (by rfl) (OwnB.nil _ _) v0 m0 (by rfl) ((H0.out.upd0 hU5).upd0 hU7) (by simp; omega) (by have := HS2.out; omega) ?_; intro b8 w8 hO8 _ hU8' _; simp only [List.nil_append] at hO8))
  have hU8 : Upd [] w7 w8 := hU8'.mono (by simp [Value.ownBlock])
  clear hU8'
  go_upto_region 15 with (first | (at_builtin; refine append_rd rfl _ _ rfl S2 b8 m0 (by rfl) hO8 v2 m2 (by rfl) (((H2.out.upd0 hU5).upd0 hU7).upd0 hU8) (by omega) (by have := HS2.out; have := hU8.size; omega) ?_; intro b9 w9 hO9 _ hU9' _))
  have hU9 : Upd [] w7 w9 := hU8.row hU9' (fun g hg => by have := (hO8.lt g hg).1; have := HS2.out; omega)
  have hA9 := hO7.rd.upd0 hU9
  have hB9 := hO9.rd
  have hU : Upd [] w w9 := (hU5.trans hU7).trans hU9
  have hD9 := (hD5.upd hU7 (by simp)).upd hU9 (by simp)
  have hE9 := (hE5.upd hU7 (by simp)).upd hU9 (by simp)
  obtain ⟨sb, cb, rfl, hcb1, hcb2⟩ := hB9.isSlice
  have hbb : ∀ k, (Value.slice sb (m0 ++ m2).length cb).ownBlock = some k → B < k := fun k hk => by have := (hO9.lt k hk).1; have := HS2.out; have := HS.out; have := hU7.size; omega
  have HBB := Lib.hid hbb
  have HA9 := Lib.hid hA9
  have HB9 := Lib.hid hB9
  clear hbb hU9' hO8 hU8 hO7 hO9 hU7 hU5 hD5 hE5 hA9 hB9 hU9
  have hnq1 := neq_h32_same (m0 ++ m1)
  have hnq2 := neq_h32_same (m0 ++ m2)
  have HD9 := Lib.hid hD9
  have HE9 := Lib.hid hE9
  obtain ⟨m01, hm01⟩ : ∃ x, m0 ++ m1 = x := ⟨_, rfl⟩
  obtain ⟨m02, hm02⟩ : ∃ x, m0 ++ m2 = x := ⟨_, rfl⟩
  have lm1 : m01.length ≤ 2097152 := by rw [← hm01, List.length_append]; omega
  have lm2 : m02.length ≤ 2097152 := by rw [← hm02, List.length_append]; omega
  rw [hm01] at HA9 HD9 hnq1
  rw [hm02] at HB9 HE9 hnq2 HBB ⊢
  clear hm01 hm02 hD9 hE9
  go_wp2_with fail
  refine (digsum256 _ B m01 HD9.out (by omega) (HG.out.upd hU (by simp))).mono ?_
  rintro f1 x1 ⟨rfl, hV1⟩
  go_wp2_with fail
  refine (sum256 _ a7 m01 (HA9.out.upd0 hV1) (by omega) ((HG.out.upd hU (by simp)).upd hV1 (by simp)) ((HF.out.upd hU (by simp)).upd hV1 (by simp))).mono ?_
  rintro f2 x2 ⟨rfl, hV2'⟩
  have hV2 := hV1.trans hV2'
  clear hV1 hV2'
  go_wp2_with fail
  refine (digsum256 _ C m02 (HE9.out.upd hV2 (by simp)) (by omega) ((HG.out.upd hU (by simp)).upd hV2 (by simp))).mono ?_
  rintro f3 x3 ⟨rfl, hV3'⟩
  have hV3 := hV2.trans hV3'
  clear hV2 hV3'
  go_wp2_with fail
  refine (sum256 _ _ m02 (HB9.out.upd0 hV3) (by omega) ((HG.out.upd hU (by simp)).upd hV3 (by simp)) ((HF.out.upd hU (by simp)).upd hV3 (by simp))).mono ?_
  rintro f4 x4 ⟨rfl, hV4'⟩
  have hV4 := hV3.trans hV4'
  clear hV3 hV4'
  go_upto_region 17 with (fail)
  go_wp2_with fail
  refine (resetof256 _ B m01 (HD9.out.upd hV4 (by simp)) ((HF.out.upd hU (by simp)).upd hV4 (by simp))).mono ?_
  rintro f5 x5 ⟨⟨y6, rfl⟩, hD5, hV5⟩
  have hE5 := (HE9.out.upd hV4 (by simp)).upd hV5 (by simp; omega)
  have hU5 : Upd [] w x5 := (hU.trans hV4).trans' hV5 (fun i hi hlt => by simp at hi; have := HB.out; omega)
  have hB5 : RdB x5 (.slice sb m02.length cb) m02 := (HB9.out.upd0 hV4).upd' hV5 (fun hp k hk hm => by
    have := HBB.out k hk
    simp at hm
    omega)
  clear hV4 hV5
  go_wp2_with fail
  refine (lenof256 _ B [] hD5).mono ?_
  rintro f6 x6 ⟨rfl, rfl⟩
  go_wp2_with fail
  refine (lenof256 _ C m02 hE5).mono ?_
  rintro f7 x7 ⟨rfl, rfl⟩
  go_wp2_with fail
  refine (digsum256 _ C m02 hE5 (by omega) (HG.out.upd hU5 (by simp))).mono ?_
  rintro f8 x8 ⟨rfl, hV8⟩
  go_wp2_with fail
  refine (sum256 _ _ m02 (hB5.upd0 hV8) (by omega) ((HG.out.upd hU5 (by simp)).upd hV8 (by simp)) ((HF.out.upd hU5 (by simp)).upd hV8 (by simp))).mono ?_
  rintro f9 x9 ⟨rfl, hV9'⟩
  have hD9' := (hD5.upd hV8 (by simp)).upd hV9' (by simp)
  have hU9' : Upd [] w x9 := (hU5.trans hV8).trans hV9'
  clear hV8 hV9' hU5 hD5 hE5 hB5
  go_upto_region 20 with (fail)
  go_wp2_with fail
  refine (write256 _ B v2 [] m2 hD9' (H2.out.upd0 hU9') (HAP.out v2 m2 B H2.out (Nat.le_refl _)) (by simp; omega) (by omega) (HG.out.upd hU9' (by simp)) (by omega)).mono ?_
  rintro f10 z1 ⟨⟨y7, rfl⟩, hD10, hV10⟩
  have hU10 : Upd [] w z1 := hU9'.trans' hV10 (fun i hi hlt => by simp at hi; have := HB.out; omega)
  rw [List.nil_append] at hD10
  have hnq3 := eql_h32_same m2
  clear hV10 hU9' hD9'
  go_wp2_with fail
  refine (digsum256 _ B m2 hD10 (by omega) (HG.out.upd hU10 (by simp))).mono ?_
  rintro f11 z2 ⟨rfl, hV11⟩
  go_wp2_with fail
  refine (sum256 _ v2 m2 ((H2.out.upd0 hU10).upd0 hV11) (by omega) ((HG.out.upd hU10 (by simp)).upd hV11 (by simp)) ((HF.out.upd hU10 (by simp)).upd hV11 (by simp))).mono ?_
  rintro f12 z3 ⟨rfl, hV12⟩
  have hU12 : Upd [] w z3 := (hU10.trans hV11).trans hV12
  clear hV11 hV12
  go_wp2_with fail
  refine (known256 _ (HG.out.upd hU12 (by simp)) (HF.out.upd hU12 (by simp))).mono ?_
  rintro f13 z4 ⟨rfl, hV13⟩
  go_wp2
  go_ret
  exact ⟨rfl, hU12.trans hV13⟩
end Go.Proofs.YtdejiachopiaaaaDoor
