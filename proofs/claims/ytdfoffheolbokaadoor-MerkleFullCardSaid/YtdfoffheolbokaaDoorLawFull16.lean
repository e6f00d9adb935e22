/-
  The law MerkleFull: a tree takes so many leaves and no more.
-/
import Derived.Test.YtdfoffheolbokaaDoorTreeApp
import Derived.Test.YtdfoffheolbokaaDoorEqHash
namespace Go.Proofs.YtdfoffheolbokaaDoor
open Go Go.RowKit Go.Proofs
theorem gl256_lt {w : World} (h : Gl256 w) : 1 < w.heap.size := by
  have := World.block_lt_of_cell? w _ (h 0 (by decide))
  simpa using this
def leaf2 (x y : BitVec 8) : H8 := x :: y :: List.replicate 30 0
theorem leaf2_length (x y : BitVec 8) : (leaf2 x y).length = 32 := by simp [leaf2]
theorem leaf2_cells (x y : BitVec 8) : ((leaf2 x y).map U8).toArray = #[U8 x, U8 y, Value.int IntKind.u8 0, Value.int IntKind.u8 0, Value.int IntKind.u8 0, Value.int IntKind.u8 0, Value.int IntKind.u8 0, Value.int IntKind.u8 0, Value.int IntKind.u8 0, Value.int IntKind.u8 0, Value.int IntKind.u8 0, Value.int IntKind.u8 0, Value.int IntKind.u8 0, Value.int IntKind.u8 0, Value.int IntKind.u8 0, Value.int IntKind.u8 0, Value.int IntKind.u8 0, Value.int IntKind.u8 0, Value.int IntKind.u8 0, Value.int IntKind.u8 0, Value.int IntKind.u8 0, Value.int IntKind.u8 0, Value.int IntKind.u8 0, Value.int IntKind.u8 0, Value.int IntKind.u8 0, Value.int IntKind.u8 0, Value.int IntKind.u8 0, Value.int IntKind.u8 0, Value.int IntKind.u8 0, Value.int IntKind.u8 0, Value.int IntKind.u8 0, Value.int IntKind.u8 0] := by rfl
set_option maxRecDepth 100000 in
set_option maxHeartbeats 6400000 in
theorem law_full16 (w : World) (hg : Gl256 w) (hf : GlFirst256 w) : Calls Tryd.prog 4 #[] w fun e w' => e = .returned (.bool true) ∧ Upd [] w w' := by
  have HNW : Hid (∀ W, Calls Tryd.prog 11 #[] W fun e w' => ∃ b, e = .returned (.pointer (some ⟨b, 0, none⟩)) ∧ b = W.heap.size ∧ TreeAt w' b (.slice none 0 0) [] ∧ Upd [] W w') := new_
  have HG := Lib.hid hg
  have HF := Lib.hid hf
  have hcl : 1 < w.heap.size := gl256_lt hg
  have hfl : 0 < w.heap.size := hf.lt
  have HCL := Lib.hid hcl
  have HFL := Lib.hid hfl
  clear hg hf hcl hfl
  go_enter Tryd.func4, Tryd.ntmps4
  go_wp2_with (fail)
  with_reducible refine (HNW.out _).mono ?_
  rintro e w1 ⟨bt, rfl, hbt, hT1, hU1⟩
  have HBT := Lib.hid hbt
  have HT1 := Lib.hid hT1
  have HU1 := Lib.hid hU1
  clear hbt hT1 hU1 HNW
  go_wp2_with (fail)
  go_loopw [2] (fun iv wr => ∃ (k : Nat) (l : List H8) (pv : Value), k ≤ 65536 ∧ iv = .int .i64 k ∧ l.length = k ∧ TreeAt wr bt pv l ∧ Upd [] w wr) (fun iv _ => 65536 - (intOf iv).toNat)
  case atStart => exact ⟨0, [], _, by omega, rfl, rfl, HT1.out, HU1.out⟩
  case round =>
    obtain ⟨k, l, pv, hk, rfl, hl, hT, hU⟩ := hrel
    have HT := Lib.hid hT
    have HU := Lib.hid hU
    have HL := Lib.hid hl
    obtain ⟨wo, rfl⟩ : ∃ wo : World, wo = wr := ⟨_, rfl⟩
    have HG1 := Lib.hid (HG.out.upd hU (by simp))
    have HF1 := Lib.hid (HF.out.upd hU (by simp))
    have HC1 : Hid (1 < bt) := by rw [HBT.out]; exact HCL.out
    have HC2 : Hid (0 < bt) := by rw [HBT.out]; exact HFL.out
    clear hl hT hU
    by_cases h : k < 65536
    · have h' : (k : Int) < 65536 := by omega
      have HSZ : Hid (Calls Tryd.prog 14 #[.pointer (some ⟨bt, 0, none⟩)] wo fun e w' => e = .returned (.int .i64 k) ∧ Upd [] wo w') := by
        have := size_ wo bt pv l HT.out
        rwa [HL.out] at this
      go_wp2_with (fail)
      with_reducible refine HSZ.out.mono ?_
      rintro e w3 ⟨rfl, hU3⟩
      have HAP := Lib.hid (tappend_ w3 bt pv l (leaf2 (BitVec.ofNat 8 k) (BitVec.ofInt 8 ((k : Int) / 256))) (HT.out.upd0 hU3) (leaf2_length _ _) (by rw [HL.out]; exact h) HC1.out HC2.out (HG1.out.upd hU3 (by simp)) (HF1.out.upd hU3 (by simp)))
      rw [leaf2_cells] at HAP
      have hV3 := HU.out.trans hU3
      go_wp2_with (fail)
      with_reducible refine HAP.out.mono ?_
      rintro e w4 ⟨rfl, pv', hT4, hB4, hU4⟩
      have hV4 : Upd [] w w4 := hV3.trans' hU4 (fun i hm hi => by
        rcases List.mem_cons.1 hm with hm | hm
        · have h1 := HBT.out; have h2 := HT.out.lt.1; omega
        · have h1 := HBT.out; have h2 := HT.out.lt.2 i (by simpa using hm); omega)
      have HT4 := Lib.hid hT4
      have HV4 := Lib.hid hV4
      clear HAP hV3 hU3 hT4 hB4 hU4 hV4
      go_wp2_with (fail)
      go_roundw
      case rel => exact ⟨k + 1, _, pv', by omega, by go_num, by rw [List.length_append, HL.out]; rfl, HT4.out, HV4.out⟩
      case measure => simp [intOf]; omega
    · obtain rfl : k = 65536 := by omega
      have hTl := HL.out
      have hll := HT.out.1
      have hRl := rootOf_length l hll
      have HSZ : Hid (∀ W, Upd [] wo W → Calls Tryd.prog 14 #[.pointer (some ⟨bt, 0, none⟩)] W fun e w' => e = .returned (.int .i64 65536) ∧ Upd [] W w') := fun W hW => by
        have := size_ W bt pv l (HT.out.upd0 hW)
        rwa [HL.out] at this
      have HRT : Hid (∀ W, Upd [] wo W → Calls Tryd.prog 13 #[.pointer (some ⟨bt, 0, none⟩)] W fun e w' => e = .returned (.agg ((rootOf l).map U8).toArray) ∧ Upd [] W w') := fun W hW => troot_ W bt pv l (HT.out.upd0 hW) (by rw [HL.out]; omega) (HG1.out.upd hW (by simp)) (HF1.out.upd hW (by simp))
      have HFU : Hid (∀ W cx, Upd [] wo W → Calls Tryd.prog 15 #[.pointer (some ⟨bt, 0, none⟩), .agg cx] W fun e w' => e = .returned (.bool false) ∧ Upd [] W w') := fun W cx hW => tappend_full W bt pv l cx (HT.out.upd0 hW) HL.out
      have hq := fun W => eql_h32 (rootOf l) (rootOf l) hRl hRl W
      rw [show (rootOf l == rootOf l) = true by simp] at hq
      have hs := szrow hRl
      have ho := sameZ hRl
      have ha := oneAll (rootOf l)
      obtain ⟨cR, hcR⟩ : ∃ c, ((rootOf l).map U8).toArray = c := ⟨_, rfl⟩
      rw [hcR] at HRT hq hs ho ha
      have hgd := guard_h32
      have HU' := Lib.hid HU.out
      clear hTl hll hRl hcR h
      go_wp2_with (fail)
      with_reducible refine (HRT.out _ (Upd.refl [] wo)).mono ?_
      rintro e w3 ⟨rfl, hU3⟩
      go_wp2_with (with_reducible refine arm_alloc (zero_h32 _) ?_)
      intro b3 w4 hb4 k4 hU4 hz4
      change w4.heap[b3]? = some (.cells (zrow8 32) 27 (0, 0)) at k4
      go_wp2_with (with_reducible refine arm_store (by with_unfolding_all exact rfl) (by with_unfolding_all exact rfl) k4 hs ho ha ?_)
      intro w5 k5 hX5 hz5
      have hT5 := hU4.fresh hb4 hX5
      have hV5 := hU3.trans hT5
      have HFU5 : Hid (∀ W cx, Upd [] w5 W → Calls Tryd.prog 15 #[.pointer (some ⟨bt, 0, none⟩), .agg cx] W fun e w' => e = .returned (.bool false) ∧ Upd [] W w') := fun W cx hW => HFU.out W cx (hV5.trans hW)
      have HSZ5 : Hid (∀ W, Upd [] w5 W → Calls Tryd.prog 14 #[.pointer (some ⟨bt, 0, none⟩)] W fun e w' => e = .returned (.int .i64 65536) ∧ Upd [] W w') := fun W hW => HSZ.out W (hV5.trans hW)
      have HRT5 : Hid (∀ W, Upd [] w5 W → Calls Tryd.prog 13 #[.pointer (some ⟨bt, 0, none⟩)] W fun e w' => e = .returned (.agg cR) ∧ Upd [] W w') := fun W hW => HRT.out W (hV5.trans hW)
      have HQ5 : Hid (∀ W, Upd [] w5 W → ∃ t fr, W.heap[b3]? = some (.cells cR t fr)) := fun W hW => ⟨_, _, hW.heap k5 (by simp)⟩
      clear hU4 hb4 k4 hz4 hX5 hz5 hT5 hU3 k5
      go_upto_region 10 with (fail)
      refine wp_region_quiet_all (Upd [] w5) (by kernel_rfl) (by kernel_rfl) (Upd.refl _ _).drew ?_
      refine wpQuiet_step (fun K hK => ?_)
      go_simp
      first
        | (refine ⟨_, fun _ _ => rfl, hK _ ?_⟩; clear hK K)
        | (refine hK _ ?_; clear hK K)
      repeat (first
        | go_big_quiet_skip
        | (refine wpQuiet_valK rfl (quiet_load_row 27 _ rfl b3 rfl _ HQ5.out Tryd.underlying27 rfl hs) (fun K hK => ?_); go_simp; refine hK _ ?_; clear hK K)
        | go_big_quiet_step ((intro hw2; first
            | rfl
            | ((with_reducible refine (HFU5.out _ _ hw2).mono ?_); exact fun e w' h => ⟨h.1, hw2.trans h.2⟩)
            | ((with_reducible refine (HSZ5.out _ hw2).mono ?_); exact fun e w' h => ⟨h.1, hw2.trans h.2⟩)
            | ((with_reducible refine (HRT5.out _ hw2).mono ?_); exact fun e w' h => ⟨h.1, hw2.trans h.2⟩)
            )))
      refine wpQuiet_nil ?_
      intro w6 hU6
      go_wp2_with (fail)
      go_ret
      exact ⟨rfl, (HU'.out.trans hV5).trans hU6⟩
end Go.Proofs.YtdfoffheolbokaaDoor
