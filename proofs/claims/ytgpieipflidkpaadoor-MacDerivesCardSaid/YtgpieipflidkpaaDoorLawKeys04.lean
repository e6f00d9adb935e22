/-
  The law MacKeys: bytes 0 behind a key change nothing, up to the block's length.
-/
import Derived.Test.YtgpieipflidkpaaDoorMac
import Derived.Test.YtgpieipflidkpaaDoorEqHash
import Derived.Test.YtgpieipflidkpaaDoorEqWide
namespace Go.Proofs.YtgpieipflidkpaaDoor
open Go Go.RowKit Go.Proofs
theorem padKey_more (key : List (BitVec 8)) (q n : Nat) (h : key.length + q ≤ n) : padKey (key ++ List.replicate q 0) n = padKey key n := by
  unfold padKey
  rw [List.append_assoc, List.length_append, List.length_replicate, List.replicate_append_replicate]
  congr 2
  omega
theorem frameOf_more (key : List (BitVec 8)) (q n : Nat) (c : BitVec 8) (h : key.length + q ≤ n) : frameOf (key ++ List.replicate q 0) n c = frameOf key n c := by
  unfold frameOf; rw [padKey_more key q n h]
theorem hmac256_more (key msg : List (BitVec 8)) (q : Nat) (h : key.length + q ≤ 64) : hmac256 (key ++ List.replicate q 0) msg = hmac256 key msg := by
  unfold hmac256
  rw [if_pos (by simp; omega), if_pos (by omega), frameOf_more key q 64 _ h, frameOf_more key q 64 _ h]
theorem hmac512_more (key msg : List (BitVec 8)) (q : Nat) (h : key.length + q ≤ 128) : hmac512 (key ++ List.replicate q 0) msg = hmac512 key msg := by
  unfold hmac512
  rw [if_pos (by simp; omega), if_pos (by omega), frameOf_more key q 128 _ h, frameOf_more key q 128 _ h]
set_option maxRecDepth 100000 in
theorem hmac_none : (hmac256 [] [] == List.replicate 32 0) = false := by decide +kernel
theorem zrow_h : zrow8 32 = ((List.replicate 32 (0 : BitVec 8)).map U8).toArray := by kernel_rfl
theorem built_hash : Tryd.prog.built 23 [] = some (zrow8 32) := by kernel_rfl
theorem RdB.one1 (w : World) (g : Nat) (y : BitVec 8) (T : TypeId) (fr : Nat × Nat) (h : w.heap[g]? = some (.cells #[U8 y] T fr)) : RdB w (.slice (some ⟨g, 0, none⟩) 1 1) [y] :=
  RdB.mk (l := [y]) (by simp) (by simp [maxLen]) (Bytes.of_row h [y] 0 (fun i hi => by simp at hi; subst hi; rfl))
/-- one byte, laid into a new block -/
theorem bs1 {ops : Array Oper} {rest : List Oper} {a : Act} {w : World} {Q : Exit → Act → World → Prop} {dst : Option Tmp} {type : TypeId} {pos : String} {after : Array Edge} {x1 : Operand} {y : BitVec 8} (h1 : a.eval x1 = U8 y)
    (h : ∀ g w', w.heap.size = g → RdB w' (.slice (some ⟨g, 0, none⟩) 1 1) [y] → Upd [] w w' → wpList Tryd.prog ops Q rest (a.put dst (.slice (some ⟨g, 0, none⟩) 1 1)) w') :
    wpList Tryd.prog ops Q (⟨dst, .buildSlice 24 1 #[(0, x1)], type, pos, after, none⟩ :: rest) a w := by
  obtain ⟨i, hi, hz, hs, _⟩ := info_byte
  exact arm_bs1 Tryd.underlying24 hi hs hz rfl h1 rfl (fun g w' hg hk hU => h g w' hg (RdB.one1 w' g y _ _ hk) hU)
def NilMac (w : World) (c : Array Value) : Prop := ∀ W, Upd [] w W → Calls Tryd.prog 9 #[.slice none 0 0, .slice none 0 0] W fun e w' => e = .returned (.agg c) ∧ Upd [] W w'
theorem NilMac.at {w : World} {c : Array Value} (h : NilMac w c) (W : World) (hW : Upd [] w W) : Calls Tryd.prog 9 #[.slice none 0 0, .slice none 0 0] W fun e w' => e = .returned (.agg c) ∧ Upd [] W w' := h W hW
theorem nilMac (w : World) (hg : Gl256 w) (hf : GlFirst256 w) : ∃ c, NilMac w c ∧ (∀ w', (binOp .eql 23 (.agg c) (.agg (zrow8 32))).run Tryd.prog w' = .ok (.bool false) w') ∧ (∀ w', (binOp .neq 23 (.agg c) (.agg (zrow8 32))).run Tryd.prog w' = .ok (.bool true) w') := by
  refine ⟨((hmac256 [] []).map U8).toArray, fun W hW => mac256 W _ _ [] [] (RdB.nil W) (RdB.nil W) (by simp) (by simp) (hg.upd hW (by simp)) (hf.upd hW (by simp)), fun w' => ?_, fun w' => ?_⟩
  · rw [zrow_h, eql_h32 _ _ (hmac256_length _ _) (by simp), hmac_none]
  · rw [zrow_h, neq_h32 _ _ (hmac256_length _ _) (by simp), bne, hmac_none]; rfl
theorem wpl_build_g {P : Program} {ops : Array Oper} {rest : List Oper} {o : Oper} {a : Act} {w : World} {Q : Exit → Act → World → Prop} (hw : Region.wanted o (yielded ops a.tmps) = true) (t : TypeId) (parts : Array (Nat × Operand)) (ho : o.op = .build t parts)
    (cs : Array Value) (hf : P.built t (parts.map fun (i, x) => (i, a.eval x)).toList = some cs)
    (h : wpList P ops Q rest (a.put o.dst (.agg cs)) w) : wpList P ops Q (o :: rest) a w :=
  wpl_wanted hw fun _ hK => wp_build t parts ho (by rw [hf]; rfl) (by rw [hf]; exact hK _ _ h)
set_option maxRecDepth 100000 in
set_option maxHeartbeats 6400000 in
theorem law_keys04 (w : World) (kv mv : Value) (key text : List (BitVec 8)) (more : Int) (hk : RdB w kv key) (hm : RdB w mv text) (hg : Gl256 w) (hf : GlFirst256 w) (hg5 : Gl512 w) (hf5 : GlFirst512 w) :
    Calls Tryd.prog 5 #[kv, mv, .int .i64 more] w fun x w' => x = .returned (.bool true) ∧ Upd [] w w' := by
  obtain ⟨cN, hN, hNe, hNn⟩ := nilMac w hg hf
  have hgd := guard_h32
  have hgd5 := guard_w64
  obtain ⟨cz, hcz⟩ : ∃ c, zrow8 32 = c := ⟨_, rfl⟩
  have hbz := built_hash
  rw [hcz] at hNe hNn hbz
  have HN := Lib.hid hN
  have HBZ := Lib.hid hbz
  obtain ⟨A1, c1, e1, hc1, hc1'⟩ := hk.isSlice
  obtain ⟨A2, c2, e2, hc2, hc2'⟩ := hm.isSlice
  by_cases hbad : key.length > 128 ∨ text.length > 2048 ∨ more < 0 ∨ more > 128
  · rw [e1, e2]
    obtain ⟨n, hn⟩ : ∃ n, key.length = n := ⟨_, rfl⟩
    obtain ⟨m, hm'⟩ : ∃ m, text.length = m := ⟨_, rfl⟩
    rw [hn, hm'] at hbad ⊢
    clear hk hm hg hf hg5 hf5 hN hbz hcz e1 e2 hn hm' hc1 hc2
    by_cases c1 : n > 128
    · clear hbad
      go_enter Tryd.func5, Tryd.ntmps5
      go_wp2_with (first | (with_reducible refine arm_build0 HBZ.out ?_) | (with_reducible refine arm_build0_g (by with_unfolding_all exact rfl) HBZ.out ?_))
      with_reducible refine (HN.out.at _ (Upd.refl _ w)).mono ?_
      rintro e w1 ⟨rfl, hU1⟩
      go_wp2_with (first | (with_reducible refine arm_build0 HBZ.out ?_) | (with_reducible refine arm_build0_g (by with_unfolding_all exact rfl) HBZ.out ?_))
      go_ret
      exact ⟨rfl, hU1⟩
    · by_cases c2 : m > 2048
      · clear hbad
        go_enter Tryd.func5, Tryd.ntmps5
        go_wp2_with (first | (with_reducible refine arm_build0 HBZ.out ?_) | (with_reducible refine arm_build0_g (by with_unfolding_all exact rfl) HBZ.out ?_))
        with_reducible refine (HN.out.at _ (Upd.refl _ w)).mono ?_
        rintro e w1 ⟨rfl, hU1⟩
        go_wp2_with (first | (with_reducible refine arm_build0 HBZ.out ?_) | (with_reducible refine arm_build0_g (by with_unfolding_all exact rfl) HBZ.out ?_))
        go_ret
        exact ⟨rfl, hU1⟩
      · by_cases c3 : more < 0
        · clear hbad
          go_enter Tryd.func5, Tryd.ntmps5
          go_wp2_with (first | (with_reducible refine arm_build0 HBZ.out ?_) | (with_reducible refine arm_build0_g (by with_unfolding_all exact rfl) HBZ.out ?_))
          with_reducible refine (HN.out.at _ (Upd.refl _ w)).mono ?_
          rintro e w1 ⟨rfl, hU1⟩
          go_wp2_with (first | (with_reducible refine arm_build0 HBZ.out ?_) | (with_reducible refine arm_build0_g (by with_unfolding_all exact rfl) HBZ.out ?_))
          go_ret
          exact ⟨rfl, hU1⟩
        · have c4 : more > 128 := by omega
          clear hbad
          go_enter Tryd.func5, Tryd.ntmps5
          go_wp2_with (first | (with_reducible refine arm_build0 HBZ.out ?_) | (with_reducible refine arm_build0_g (by with_unfolding_all exact rfl) HBZ.out ?_))
          with_reducible refine (HN.out.at _ (Upd.refl _ w)).mono ?_
          rintro e w1 ⟨rfl, hU1⟩
          go_wp2_with (first | (with_reducible refine arm_build0 HBZ.out ?_) | (with_reducible refine arm_build0_g (by with_unfolding_all exact rfl) HBZ.out ?_))
          go_ret
          exact ⟨rfl, hU1⟩
  · have q1 : ¬ (key.length > 128) := by omega
    have q2 : ¬ (text.length > 2048) := by omega
    obtain ⟨M, rfl⟩ : ∃ M : Nat, more = M := ⟨more.toNat, by omega⟩
    have q3 : M ≤ 128 := by omega
    have HK := Lib.hid hk
    have HM := Lib.hid hm
    have HG := Lib.hid hg
    have HF := Lib.hid hf
    have HG5 := Lib.hid hg5
    have HF5 := Lib.hid hf5
    obtain ⟨cA, hcA⟩ : ∃ c, ((hmac256 key text).map U8).toArray = c := ⟨_, rfl⟩
    obtain ⟨cW, hcW⟩ : ∃ c, ((hmac512 key text).map U8).toArray = c := ⟨_, rfl⟩
    have HA1 : Hid (∀ W, Upd [] w W → Calls Tryd.prog 9 #[kv, mv] W fun e w' => e = .returned (.agg cA) ∧ Upd [] W w') := fun W hW => by
      have := mac256 W kv mv key text (HK.out.upd0 hW) (HM.out.upd0 hW) (by omega) (by omega) (HG.out.upd hW (by simp)) (HF.out.upd hW (by simp))
      rwa [hcA] at this
    have HA2 : Hid (key.length + M ≤ 64 → ∀ W v, Upd [] w W → RdB W v (key ++ List.replicate M 0) → Calls Tryd.prog 9 #[v, mv] W fun e w' => e = .returned (.agg cA) ∧ Upd [] W w') := fun h W v hW hr => by
      have := mac256 W v mv _ text hr (HM.out.upd0 hW) (by omega) (by simp; omega) (HG.out.upd hW (by simp)) (HF.out.upd hW (by simp))
      rwa [hmac256_more key text M h, hcA] at this
    have HW1 : Hid (∀ W, Upd [] w W → Calls Tryd.prog 12 #[kv, mv] W fun e w' => e = .returned (.agg cW) ∧ Upd [] W w') := fun W hW => by
      have := mac512 W kv mv key text (HK.out.upd0 hW) (HM.out.upd0 hW) (by omega) (by omega) (HG5.out.upd hW (by simp)) (HF5.out.upd hW (by simp))
      rwa [hcW] at this
    have HW2 : Hid (key.length + M ≤ 128 → ∀ W v, Upd [] w W → RdB W v (key ++ List.replicate M 0) → Calls Tryd.prog 12 #[v, mv] W fun e w' => e = .returned (.agg cW) ∧ Upd [] W w') := fun h W v hW hr => by
      have := mac512 W v mv _ text hr (HM.out.upd0 hW) (by omega) (by simp; omega) (HG5.out.upd hW (by simp)) (HF5.out.upd hW (by simp))
      rwa [hmac512_more key text M h, hcW] at this
    have hqA : ∀ w', (binOp .neq 23 (.agg cA) (.agg cA)).run Tryd.prog w' = .ok (.bool false) w' := fun w' => by
      rw [← hcA, neq_h32 _ _ (hmac256_length _ _) (hmac256_length _ _)]; simp
    have hqW : ∀ w', (binOp .eql 36 (.agg cW) (.agg cW)).run Tryd.prog w' = .ok (.bool true) w' := fun w' => by
      rw [← hcW]; exact eql_wide _ (hmac512_length _ _) w'
    obtain ⟨n, hn⟩ : ∃ n, key.length = n := ⟨_, rfl⟩
    obtain ⟨m, hm'⟩ : ∃ m, text.length = m := ⟨_, rfl⟩
    rw [hn] at e1 HA2 HW2 q1
    rw [hm'] at e2 q2
    rw [e1, e2] at HA1 HW1
    rw [e2] at HA2 HW2
    rw [e1] at HK
    rw [e1, e2]
    have HNL := Lib.hid hn
    have q1' : (n : Int) ≤ 128 := by omega
    have q2' : (m : Int) ≤ 2048 := by omega
    have d1 : decide ((128 : Int) < (n : Int)) = false := by simp; omega
    have d2 : decide ((2048 : Int) < (m : Int)) = false := by simp; omega
    have d3 : decide ((M : Int) < 0) = false := by simp
    have d4 : decide ((128 : Int) < (M : Int)) = false := by simp; omega
    obtain ⟨B, hB⟩ : ∃ B, w.heap.size = B := ⟨_, rfl⟩
    have HB := Lib.hid hB
    clear hk hm hg hf hg5 hf5 hN hbz hcz e1 e2 hn hm' hc1 hc2 hbad hcA hcW hB HM
    go_enter Tryd.func5, Tryd.ntmps5
    go_wp2_with (fail)
    with_reducible refine (HN.out.at _ (Upd.refl _ w)).mono ?_
    rintro e w1 ⟨rfl, hU1⟩
    go_upto_region 4 with (first | (with_reducible refine arm_build0 HBZ.out ?_) | (with_reducible refine arm_build0_g (by with_unfolding_all exact rfl) HBZ.out ?_))
    have hO1 : OwnB w1 B (.slice none 0 0) [] := OwnB.nil _ _
    have hb1 : B ≤ w1.heap.size := by have := hU1.size; have := HB.out; omega
    go_wp2_with (refine append_rd rfl _ _ rfl B (.slice none 0 0) [] rfl hO1 (.slice A1 n c1) key rfl (HK.out.upd0 hU1) (by have := HNL.out; simp; omega) hb1 ?_; intro v2 w2 hO2 hO2' hU2 hG2)
    have hV2 : Upd [] w w2 := hU1.trans (by simpa [Value.ownBlock] using hU2)
    rw [List.nil_append] at hO2
    clear hO1 hU1 hO2' hU2 hG2 hb1
    go_wp2
    go_loopw [7, 8] (fun v i wr => ∃ q : Nat, q ≤ M ∧ i = .int .i64 q ∧ OwnB wr B v (key ++ List.replicate q 0) ∧ Upd [] w wr) (fun _ i _ => M - (intOf i).toNat)
    case atStart => exact ⟨0, by omega, rfl, by simpa using hO2, hV2⟩
    case round =>
      obtain ⟨q, hq, rfl, hO, hV⟩ := hrel
      by_cases h : q < M
      · have hqM : (q : Int) < (M : Int) := by omega
        have HO := Lib.hid hO
        have HV := Lib.hid hV
        clear hO hV
        go_wp2_with (with_reducible refine bs1 (y := 0) (by with_unfolding_all exact rfl) ?_)
        intro g3 w3 hg3 hr3 hU3
        have hO3 := HO.out.upd0 hU3
        have hb3 : B ≤ w3.heap.size := by have := HV.out.size; have := hU3.size; have := HB.out; omega
        go_wp2_with (refine append_rd rfl _ _ rfl B u7 _ rfl hO3 (.slice (some ⟨g3, 0, none⟩) 1 1) [0] rfl hr3 (by have := HNL.out; simp; omega) hb3 ?_; intro v4 w4 hO4 hO4' hU4 hG4)
        go_roundw
        case rel => exact ⟨q + 1, by omega, by go_num, by rw [List.append_assoc, ← List.replicate_succ'] at hO4; exact hO4, (HV.out.trans hU3).row hU4 (fun g hg => by have := (HO.out.lt g hg).1; have := HB.out; omega)⟩
        case measure => simp [intOf]; omega
      · obtain rfl : q = M := by omega
        obtain ⟨g, cp, e, _, _⟩ := hO.rd.isSlice
        have hr := hO.rd
        rw [e] at hr ⊢
        have hl : (key ++ List.replicate q 0).length = n + q := by have := HNL.out; simp; omega
        rw [hl] at hr ⊢
        obtain ⟨L, hL⟩ : ∃ L, n + q = L := ⟨_, rfl⟩
        rw [hL] at hr ⊢
        have HR := Lib.hid hr
        have HV := Lib.hid hV
        have HNQ := Lib.hid hL
        clear hO hr e hl hL hV h
        by_cases s1 : L ≤ 64
        · have ha2 := Lib.hid (HA2.out (by have := HNQ.out; omega))
          have hw2 := Lib.hid (HW2.out (by have := HNQ.out; omega))
          have s1' : decide ((L : Int) ≤ 64) = true := by simp; omega
          have s3' : decide ((128 : Int) < (L : Int)) = false := by simp; omega
          go_wp2_with (fail)
          with_reducible refine (ha2.out _ _ HV.out HR.out).mono ?_
          rintro e w5 ⟨rfl, hU5⟩
          have hV5 := HV.out.trans hU5
          have hr5 := HR.out.upd0 hU5
          clear hU5
          go_wp2_with (fail)
          with_reducible refine (HA1.out _ hV5).mono ?_
          rintro e w6 ⟨rfl, hU6⟩
          have hV6 := hV5.trans hU6
          have hr6 := hr5.upd0 hU6
          clear hU6 hV5 hr5
          go_wp2_with (fail)
          with_reducible refine (hw2.out _ _ hV6 hr6).mono ?_
          rintro e w7 ⟨rfl, hU7⟩
          have hV7 := hV6.trans hU7
          clear hU7 hV6 hr6
          go_wp2_with (fail)
          with_reducible refine (HW1.out _ hV7).mono ?_
          rintro e w8 ⟨rfl, hU8⟩
          go_wp2_with (fail)
          go_ret
          exact ⟨rfl, hV7.trans hU8⟩
        · by_cases s2 : L ≤ 128
          · have hw2 := Lib.hid (HW2.out (by have := HNQ.out; omega))
            have s1' : decide ((L : Int) ≤ 64) = false := by simp; omega
            have s2' : decide ((128 : Int) < (L : Int)) = false := by simp; omega
            go_wp2_with (fail)
            with_reducible refine (hw2.out _ _ HV.out HR.out).mono ?_
            rintro e w7 ⟨rfl, hU7⟩
            have hV7 := HV.out.trans hU7
            clear hU7
            go_wp2_with (fail)
            with_reducible refine (HW1.out _ hV7).mono ?_
            rintro e w8 ⟨rfl, hU8⟩
            go_wp2_with (fail)
            go_ret
            exact ⟨rfl, hV7.trans hU8⟩
          · have s1' : decide ((L : Int) ≤ 64) = false := by simp; omega
            have s2' : decide ((128 : Int) < (L : Int)) = true := by simp; omega
            go_wp2_with (fail)
            go_ret
            exact ⟨rfl, HV.out⟩
end Go.Proofs.YtgpieipflidkpaaDoor
