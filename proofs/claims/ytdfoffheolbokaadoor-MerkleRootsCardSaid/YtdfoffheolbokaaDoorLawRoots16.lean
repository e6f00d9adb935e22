/-
  The law MerkleRoots: of more leaves than one the root is Node of the roots of the two parts.
-/
import Derived.Test.YtdfoffheolbokaaDoorMRoot
import Derived.Test.YtdfoffheolbokaaDoorEqHash
namespace Go.Proofs.YtdfoffheolbokaaDoor
open Go Go.RowKit Go.Proofs
set_option maxRecDepth 100000 in
theorem none_zero : (sha256 [] == List.replicate 32 0) = false := by decide +kernel
theorem own_new {w : World} {b B : Nat} {l : List (BitVec 8)} (hb : w.heap[b]? = some (.cells (l.map U8).toArray 5 (0, 0))) (hB : B ≤ b) (hn : l.length ≤ maxLen) : OwnB w B (.slice (some ⟨b, 0, none⟩) l.length l.length) l :=
  ⟨by simp, .inr ⟨b, l.length, _, rfl, hB, hb, Nat.le_refl _, hn, by simp, by simp [List.take_of_length_le]⟩⟩
/-- one byte, laid into a new block: it is one's own -/
theorem bs1own {ops : Array Oper} {rest : List Oper} {a : Act} {w : World} {Q : Exit → Act → World → Prop} {dst : Option Tmp} {type : TypeId} {pos : String} {after : Array Edge} {x1 : Operand} {y : BitVec 8} (h1 : a.eval x1 = U8 y)
    (h : ∀ g w', w.heap.size = g → OwnB w' g (.slice (some ⟨g, 0, none⟩) 1 1) [y] → Upd [] w w' → wpList Tryd.prog ops Q rest (a.put dst (.slice (some ⟨g, 0, none⟩) 1 1)) w') :
    wpList Tryd.prog ops Q (⟨dst, .buildSlice 37 1 #[(0, x1)], type, pos, after, none⟩ :: rest) a w := by
  obtain ⟨i, hi, hz, hs, _⟩ := info_byte
  exact arm_bs1 Tryd.underlying37 hi hs hz rfl h1 rfl (fun g w' hg hk hU => h g w' hg (own_new (l := [y]) hk (Nat.le_refl _) (by simp [maxLen])) hU)
set_option maxRecDepth 100000 in
set_option maxHeartbeats 6400000 in
theorem law_roots16 (w : World) (v dv : Value) (ls : List H8) (data : List (BitVec 8)) (hv : RdH w v ls) (hd : RdB w dv data) (hg : Gl256 w) (hf : GlFirst256 w) :
    Calls Tryd.prog 5 #[v, dv] w fun x w' => x = .returned (.bool true) ∧ Upd [] w w' := by
  obtain ⟨A, c, e, hc1, hc2⟩ := hv.isSlice
  obtain ⟨D, dc, de, hdc1, hdc2⟩ := hd.isSlice
  obtain ⟨n, hn⟩ : ∃ n, ls.length = n := ⟨_, rfl⟩
  obtain ⟨m, hm⟩ : ∃ m, data.length = m := ⟨_, rfl⟩
  rw [hn] at e hc1
  rw [hm] at de hdc1
  by_cases hbig : 200 < n
  · have h1 : (n : Int) > 200 := by omega
    rw [e, de]
    clear hv hd hg hf hn hm e de hbig
    go_enter Tryd.func5, Tryd.ntmps5
    go_wp2_with (fail)
    go_ret
    exact ⟨rfl, Upd.refl _ w⟩
  by_cases hbig2 : 4096 < m
  · have h1 : (n : Int) ≤ 200 := by omega
    have h2 : (m : Int) > 4096 := by omega
    rw [e, de]
    clear hv hd hg hf hn hm e de hbig hbig2
    go_enter Tryd.func5, Tryd.ntmps5
    go_wp2_with (fail)
    go_ret
    exact ⟨rfl, Upd.refl _ w⟩
  have hn200 : (n : Int) ≤ 200 := by omega
  have hm4096 : (m : Int) ≤ 4096 := by omega
  have HLf : Hid (∀ W, Upd [] w W → Calls Tryd.prog 16 #[dv] W fun e w' => e = .returned (.agg ((leafH data).map U8).toArray) ∧ Upd [] W w') := fun W hW => leaf_ W dv data (hd.upd0 hW) (by omega) (hg.upd hW (by simp)) (hf.upd hW (by simp))
  have HS1 : Hid (∀ W u, Upd [] w W → RdB W u ([0] ++ data) → Calls Tryd.prog 17 #[u] W fun e w' => e = .returned (.agg ((leafH data).map U8).toArray) ∧ Upd [] W w') := fun W u hW hu => sum256 W u _ hu (by simp; omega) (hg.upd hW (by simp)) (hf.upd hW (by simp))
  have HSN : Hid (∀ W, Upd [] w W → Calls Tryd.prog 17 #[.slice none 0 0] W fun e w' => e = .returned (.agg ((sha256 []).map U8).toArray) ∧ Upd [] W w') := fun W hW => sum256 W _ [] (RdB.nil W) (by simp) (hg.upd hW (by simp)) (hf.upd hW (by simp))
  have HRT : Hid (∀ W, Upd [] w W → Calls Tryd.prog 18 #[v] W fun e w' => e = .returned (.tuple #[.agg ((rootOf ls).map U8).toArray, .bool true]) ∧ Upd [] W w') := fun W hW => mroot_ W v ls (hv.upd0 hW) (by omega) (hg.upd hW (by simp)) (hf.upd hW (by simp))
  have HRN : Hid (∀ W, Upd [] w W → Calls Tryd.prog 18 #[.slice none 0 0] W fun e w' => e = .returned (.tuple #[.agg ((sha256 []).map U8).toArray, .bool true]) ∧ Upd [] W w') := fun W hW => by
    have := mroot_ W _ [] (RdH.nil W) (by simp) (hg.upd hW (by simp)) (hf.upd hW (by simp))
    rwa [rootOf_nil] at this
  have hRl : (rootOf ls).length = 32 := rootOf_length ls hv.1
  obtain ⟨L, hL⟩ : ∃ L, leafH data = L := ⟨_, rfl⟩
  have hLl : L.length = 32 := by rw [← hL]; exact leafH_length data
  obtain ⟨N, hN⟩ : ∃ N, sha256 [] = N := ⟨_, rfl⟩
  have hNl : N.length = 32 := by rw [← hN]; exact sha256_length []
  have hNz : (N == List.replicate 32 0) = false := by rw [← hN]; exact none_zero
  obtain ⟨R, hR⟩ : ∃ R, rootOf ls = R := ⟨_, rfl⟩
  rw [hL] at HLf HS1
  rw [hN] at HSN HRN
  rw [hR] at HRT hRl
  have hq1 := fun W => neq_h32 L L hLl hLl W
  have hq2 := fun W => neq_h32 N N hNl hNl W
  have hq3 := fun W => eql_h32 N (List.replicate 32 0) hNl (by simp) W
  rw [← zrow_h, hNz, show zrow8 32 = #[.int .u8 0, .int .u8 0, .int .u8 0, .int .u8 0, .int .u8 0, .int .u8 0, .int .u8 0, .int .u8 0, .int .u8 0, .int .u8 0, .int .u8 0, .int .u8 0, .int .u8 0, .int .u8 0, .int .u8 0, .int .u8 0, .int .u8 0, .int .u8 0, .int .u8 0, .int .u8 0, .int .u8 0, .int .u8 0, .int .u8 0, .int .u8 0, .int .u8 0, .int .u8 0, .int .u8 0, .int .u8 0, .int .u8 0, .int .u8 0, .int .u8 0, .int .u8 0] by kernel_rfl] at hq3
  simp only [bne_self_eq_false] at hq1 hq2
  have hgd := guard_h32
  have hbz := built_hash
  have hsR := szrow hRl
  have hoR := sameZ hRl
  have haR := oneAll R
  have hsN := szrow hNl
  have hoN := sameZ hNl
  have haN := oneAll N
  have HD := Lib.hid hd
  have HV := Lib.hid hv
  have HG := Lib.hid hg
  have HF := Lib.hid hf
  have HRR := Lib.hid hR
  have HNN := Lib.hid hN
  have HNS := Lib.hid hn
  have HMS := Lib.hid hm
  have hqR := fun W => eql_h32 R R hRl hRl W
  simp only [beq_self_eq_true] at hqR
  rw [e] at HV HRT
  rw [de] at HLf HD
  rw [e, de]
  obtain ⟨cL, hcL⟩ : ∃ c, (L.map U8).toArray = c := ⟨_, rfl⟩
  obtain ⟨cN, hcN⟩ : ∃ c, (N.map U8).toArray = c := ⟨_, rfl⟩
  obtain ⟨cR, hcR⟩ : ∃ c, (R.map U8).toArray = c := ⟨_, rfl⟩
  obtain ⟨cz, hcz⟩ : ∃ c, zrow8 32 = c := ⟨_, rfl⟩
  have HZZ : Hid (∀ W, (zeroValue 27).run Tryd.prog W = .ok (.agg cz) W) := fun W => by rw [← hcz]; exact zero_h32 W
  rw [hcL] at HLf HS1 hq1
  rw [hcN] at HSN HRN hq2 hq3 hsN hoN haN
  rw [hcR] at HRT hsR hoR haR hqR
  rw [hcz] at hoR hoN hbz
  have HCR := Lib.hid hcR
  have HCN := Lib.hid hcN
  clear hd hv hg hf hR hN hL hn hm hcL hcN hcR hcz hbig hbig2 e de hLl hNz
  match ls, HNS.out with
  | [], hn0 =>
    obtain rfl : n = 0 := hn0.symm
    clear hn0
    have hRN : cN = cR := by
      rw [← HCR.out, ← HCN.out, ← HRR.out, ← HNN.out, rootOf_nil]
    subst hRN
    go_enter Tryd.func5, Tryd.ntmps5
    go_wp2_with (first
          | (with_reducible refine arm_load (by with_unfolding_all exact rfl) (by assumption) Tryd.underlying27 (by with_unfolding_all exact rfl) (by assumption) ?_)
          | (with_reducible refine arm_load_g (by with_unfolding_all exact rfl) (by with_unfolding_all exact rfl) (by assumption) Tryd.underlying27 (by with_unfolding_all exact rfl) (by assumption) ?_))
    with_reducible refine (HLf.out _ (Upd.refl [] w)).mono ?_
    rintro e w1 ⟨rfl, hU1⟩
    have hV1 : Upd [] w w1 := hU1
    clear hU1
    go_wp2_with (first
          | (with_reducible refine arm_load (by with_unfolding_all exact rfl) (by assumption) Tryd.underlying27 (by with_unfolding_all exact rfl) (by assumption) ?_)
          | (with_reducible refine arm_load_g (by with_unfolding_all exact rfl) (by with_unfolding_all exact rfl) (by assumption) Tryd.underlying27 (by with_unfolding_all exact rfl) (by assumption) ?_)
          | (with_reducible refine bs1own (y := 0) (by with_unfolding_all exact rfl) ?_))
    intro g2 w2 hg2 hO2 hU2
    have hl2 : w.heap.size ≤ g2 := by have := hV1.size; omega
    have hB2 : g2 ≤ w2.heap.size := by have := hU2.size; omega
    clear hg2
    have hV2 := hV1.trans hU2
    clear hU2 hV1
    have hD2 := HD.out.upd0 hV2
    go_wp2_with (first
          | (with_reducible refine arm_load (by with_unfolding_all exact rfl) (by assumption) Tryd.underlying27 (by with_unfolding_all exact rfl) (by assumption) ?_)
          | (with_reducible refine arm_load_g (by with_unfolding_all exact rfl) (by with_unfolding_all exact rfl) (by assumption) Tryd.underlying27 (by with_unfolding_all exact rfl) (by assumption) ?_)
          | (refine append_rd rfl _ _ rfl g2 (.slice (some ⟨g2, 0, none⟩) 1 1) [0] rfl hO2 (.slice D m dc) data rfl hD2 (by have := HMS.out; simp; omega) hB2 ?_))
    intro v3 w3 hO3 hO23 hU3 hG3
    have hV3 := hV2.row hU3 (fun g hg => by have := (hO2.lt g hg).1; omega)
    have hr3 := hO3.rd
    clear hO3 hO23 hU3 hG3 hO2 hD2 hB2 hV2
    go_wp2_with (first
          | (with_reducible refine arm_load (by with_unfolding_all exact rfl) (by assumption) Tryd.underlying27 (by with_unfolding_all exact rfl) (by assumption) ?_)
          | (with_reducible refine arm_load_g (by with_unfolding_all exact rfl) (by with_unfolding_all exact rfl) (by assumption) Tryd.underlying27 (by with_unfolding_all exact rfl) (by assumption) ?_))
    with_reducible refine (HS1.out _ _ hV3 hr3).mono ?_
    rintro e w4 ⟨rfl, hU4⟩
    have hV4 := hV3.trans hU4
    clear hU4 hV3
    clear hr3
    go_wp2_with (first
          | (with_reducible refine arm_load (by with_unfolding_all exact rfl) (by assumption) Tryd.underlying27 (by with_unfolding_all exact rfl) (by assumption) ?_)
          | (with_reducible refine arm_load_g (by with_unfolding_all exact rfl) (by with_unfolding_all exact rfl) (by assumption) Tryd.underlying27 (by with_unfolding_all exact rfl) (by assumption) ?_))
    with_reducible refine (HRT.out _ hV4).mono ?_
    rintro e w5 ⟨rfl, hU5⟩
    have hV5 := hV4.trans hU5
    clear hU5 hV4
    go_wp2_with (first
          | (with_reducible refine arm_load (by with_unfolding_all exact rfl) (by assumption) Tryd.underlying27 (by with_unfolding_all exact rfl) (by assumption) ?_)
          | (with_reducible refine arm_load_g (by with_unfolding_all exact rfl) (by with_unfolding_all exact rfl) (by assumption) Tryd.underlying27 (by with_unfolding_all exact rfl) (by assumption) ?_)
          | (with_reducible refine arm_alloc (HZZ.out _) ?_))
    intro b6 w6 hb6 hc6 hU6 hz6
    clear hz6
    change w6.heap[b6]? = some (.cells (cz) 27 (0, 0)) at hc6
    go_wp2_with (first
          | (with_reducible refine arm_load (by with_unfolding_all exact rfl) (by assumption) Tryd.underlying27 (by with_unfolding_all exact rfl) (by assumption) ?_)
          | (with_reducible refine arm_load_g (by with_unfolding_all exact rfl) (by with_unfolding_all exact rfl) (by assumption) Tryd.underlying27 (by with_unfolding_all exact rfl) (by assumption) ?_)
          | (with_reducible refine arm_store (by with_unfolding_all exact rfl) (by with_unfolding_all exact rfl) hc6 hsR hoR haR ?_))
    intro w7 h7_h hX7 hz7
    have hU7 := hU6.fresh hb6 hX7
    clear hU6 hc6 hX7 hz7 hb6
    have hV7 := hV5.trans hU7
    clear hU7 hV5
    go_wp2_with (first
          | (with_reducible refine arm_load (by with_unfolding_all exact rfl) (by assumption) Tryd.underlying27 (by with_unfolding_all exact rfl) (by assumption) ?_)
          | (with_reducible refine arm_load_g (by with_unfolding_all exact rfl) (by with_unfolding_all exact rfl) (by assumption) Tryd.underlying27 (by with_unfolding_all exact rfl) (by assumption) ?_))
    with_reducible refine (HRN.out _ hV7).mono ?_
    rintro e w8 ⟨rfl, hU8⟩
    have h8_h := hU8.heap h7_h (by simp)
    have hV8 := hV7.trans hU8
    clear hU8 hV7 h7_h
    go_wp2_with (first
          | (with_reducible refine arm_load (by with_unfolding_all exact rfl) (by assumption) Tryd.underlying27 (by with_unfolding_all exact rfl) (by assumption) ?_)
          | (with_reducible refine arm_load_g (by with_unfolding_all exact rfl) (by with_unfolding_all exact rfl) (by assumption) Tryd.underlying27 (by with_unfolding_all exact rfl) (by assumption) ?_)
          | (with_reducible refine arm_alloc (HZZ.out _) ?_))
    intro b9 w9 hb9 hc9 hU9 hz9
    clear hz9
    change w9.heap[b9]? = some (.cells (cz) 27 (0, 0)) at hc9
    go_wp2_with (first
          | (with_reducible refine arm_load (by with_unfolding_all exact rfl) (by assumption) Tryd.underlying27 (by with_unfolding_all exact rfl) (by assumption) ?_)
          | (with_reducible refine arm_load_g (by with_unfolding_all exact rfl) (by with_unfolding_all exact rfl) (by assumption) Tryd.underlying27 (by with_unfolding_all exact rfl) (by assumption) ?_)
          | (with_reducible refine arm_store (by with_unfolding_all exact rfl) (by with_unfolding_all exact rfl) hc9 hsN hoN haN ?_))
    intro w10 h10_n hX10 hz10
    have hU10 := hU9.fresh hb9 hX10
    clear hU9 hc9 hX10 hz10 hb9
    have h10_h := hU10.heap h8_h (by simp)
    have hV10 := hV8.trans hU10
    clear hU10 hV8 h8_h
    go_upto_region 7 with (first
          | (with_reducible refine arm_load (by with_unfolding_all exact rfl) (by assumption) Tryd.underlying27 (by with_unfolding_all exact rfl) (by assumption) ?_)
          | (with_reducible refine arm_load_g (by with_unfolding_all exact rfl) (by with_unfolding_all exact rfl) (by assumption) Tryd.underlying27 (by with_unfolding_all exact rfl) (by assumption) ?_))
    have hQ10_n : Hid (∀ w', Upd [] w10 w' → ∃ t fr, w'.heap[b9]? = some (.cells cN t fr)) := fun w' h => ⟨_, _, h.heap h10_n (by simp)⟩
    refine wp_region_quiet_all (Upd [] w10) (by kernel_rfl) (by kernel_rfl) (Upd.refl _ _).drew ?_
    repeat (first
      | (refine wpQuiet_val rfl (quiet_load_row 27 _ rfl (b9) rfl _ hQ10_n.out Tryd.underlying27 rfl hsN) ?_)
      | (refine wpQuiet_step (fun K hK => ?_)
         go_simp
         first
           | (refine ⟨_, fun _ _ => rfl, hK _ ?_⟩; clear hK K)
           | ((with_reducible refine ⟨_, fun w2 hw2 => (HSN.out w2 (hV10.trans hw2)).mono (fun e w' h => ⟨h.1, hw2.trans h.2⟩), hK _ ?_⟩); clear hK K)
           | (refine hK _ ?_; clear hK K)))
    refine wpQuiet_nil ?_
    intro w11 hU11
    clear hQ10_n
    have h11_h := hU11.heap h10_h (by simp)
    have h11_n := hU11.heap h10_n (by simp)
    have hV11 := hV10.trans hU11
    clear hU11 hV10 h10_h h10_n
    go_wp2_with (first
          | (with_reducible refine arm_load (by with_unfolding_all exact rfl) (by assumption) Tryd.underlying27 (by with_unfolding_all exact rfl) (by assumption) ?_)
          | (with_reducible refine arm_load_g (by with_unfolding_all exact rfl) (by with_unfolding_all exact rfl) (by assumption) Tryd.underlying27 (by with_unfolding_all exact rfl) (by assumption) ?_))
    go_wp2
    go_ret
    exact ⟨rfl, hV11⟩
  | [x], hn1 =>
    obtain rfl : n = 1 := hn1.symm
    clear hn1
    have hxR : x = R := by rw [← HRR.out, rootOf_one]
    subst hxR
    obtain ⟨g0, p0, c0, e0, _, _, _⟩ := HV.out.at (by simp)
    injection e0 with e1 e2 e3
    subst e1 e3
    have hel := HV.out.elem 0 (by simp)
    simp only [Nat.mul_zero, Nat.add_zero, List.getElem_cons_zero] at hel
    have hsl := szlist hRl
    obtain ⟨lx, hlx⟩ : ∃ l, x.map U8 = l := ⟨_, rfl⟩
    have hcR := HCR.out
    rw [hlx] at hcR hel hsl
    subst hcR
    have HEL := Lib.hid hel
    clear hel hlx e2
    go_enter Tryd.func5, Tryd.ntmps5
    go_wp2_with (first
          | (with_reducible refine arm_load (by with_unfolding_all exact rfl) (by assumption) Tryd.underlying27 (by with_unfolding_all exact rfl) (by assumption) ?_)
          | (with_reducible refine arm_load_g (by with_unfolding_all exact rfl) (by with_unfolding_all exact rfl) (by assumption) Tryd.underlying27 (by with_unfolding_all exact rfl) (by assumption) ?_))
    with_reducible refine (HLf.out _ (Upd.refl [] w)).mono ?_
    rintro e w1 ⟨rfl, hU1⟩
    have hV1 : Upd [] w w1 := hU1
    clear hU1
    go_wp2_with (first
          | (with_reducible refine arm_load (by with_unfolding_all exact rfl) (by assumption) Tryd.underlying27 (by with_unfolding_all exact rfl) (by assumption) ?_)
          | (with_reducible refine arm_load_g (by with_unfolding_all exact rfl) (by with_unfolding_all exact rfl) (by assumption) Tryd.underlying27 (by with_unfolding_all exact rfl) (by assumption) ?_)
          | (with_reducible refine bs1own (y := 0) (by with_unfolding_all exact rfl) ?_))
    intro g2 w2 hg2 hO2 hU2
    have hl2 : w.heap.size ≤ g2 := by have := hV1.size; omega
    have hB2 : g2 ≤ w2.heap.size := by have := hU2.size; omega
    clear hg2
    have hV2 := hV1.trans hU2
    clear hU2 hV1
    have hD2 := HD.out.upd0 hV2
    go_wp2_with (first
          | (with_reducible refine arm_load (by with_unfolding_all exact rfl) (by assumption) Tryd.underlying27 (by with_unfolding_all exact rfl) (by assumption) ?_)
          | (with_reducible refine arm_load_g (by with_unfolding_all exact rfl) (by with_unfolding_all exact rfl) (by assumption) Tryd.underlying27 (by with_unfolding_all exact rfl) (by assumption) ?_)
          | (refine append_rd rfl _ _ rfl g2 (.slice (some ⟨g2, 0, none⟩) 1 1) [0] rfl hO2 (.slice D m dc) data rfl hD2 (by have := HMS.out; simp; omega) hB2 ?_))
    intro v3 w3 hO3 hO23 hU3 hG3
    have hV3 := hV2.row hU3 (fun g hg => by have := (hO2.lt g hg).1; omega)
    have hr3 := hO3.rd
    clear hO3 hO23 hU3 hG3 hO2 hD2 hB2 hV2
    go_wp2_with (first
          | (with_reducible refine arm_load (by with_unfolding_all exact rfl) (by assumption) Tryd.underlying27 (by with_unfolding_all exact rfl) (by assumption) ?_)
          | (with_reducible refine arm_load_g (by with_unfolding_all exact rfl) (by with_unfolding_all exact rfl) (by assumption) Tryd.underlying27 (by with_unfolding_all exact rfl) (by assumption) ?_))
    with_reducible refine (HS1.out _ _ hV3 hr3).mono ?_
    rintro e w4 ⟨rfl, hU4⟩
    have hV4 := hV3.trans hU4
    clear hU4 hV3
    clear hr3
    go_wp2_with (first
          | (with_reducible refine arm_load (by with_unfolding_all exact rfl) (by assumption) Tryd.underlying27 (by with_unfolding_all exact rfl) (by assumption) ?_)
          | (with_reducible refine arm_load_g (by with_unfolding_all exact rfl) (by with_unfolding_all exact rfl) (by assumption) Tryd.underlying27 (by with_unfolding_all exact rfl) (by assumption) ?_))
    with_reducible refine (HRT.out _ hV4).mono ?_
    rintro e w5 ⟨rfl, hU5⟩
    have hV5 := hV4.trans hU5
    clear hU5 hV4
    go_wp2_with (first
          | (with_reducible refine arm_load (by with_unfolding_all exact rfl) (by assumption) Tryd.underlying27 (by with_unfolding_all exact rfl) (by assumption) ?_)
          | (with_reducible refine arm_load_g (by with_unfolding_all exact rfl) (by with_unfolding_all exact rfl) (by assumption) Tryd.underlying27 (by with_unfolding_all exact rfl) (by assumption) ?_)
          | (with_reducible refine arm_alloc (HZZ.out _) ?_))
    intro b6 w6 hb6 hc6 hU6 hz6
    clear hz6
    change w6.heap[b6]? = some (.cells (cz) 27 (0, 0)) at hc6
    go_wp2_with (first
          | (with_reducible refine arm_load (by with_unfolding_all exact rfl) (by assumption) Tryd.underlying27 (by with_unfolding_all exact rfl) (by assumption) ?_)
          | (with_reducible refine arm_load_g (by with_unfolding_all exact rfl) (by with_unfolding_all exact rfl) (by assumption) Tryd.underlying27 (by with_unfolding_all exact rfl) (by assumption) ?_)
          | (with_reducible refine arm_store (by with_unfolding_all exact rfl) (by with_unfolding_all exact rfl) hc6 hsR hoR haR ?_))
    intro w7 h7_h hX7 hz7
    have hU7 := hU6.fresh hb6 hX7
    clear hU6 hc6 hX7 hz7 hb6
    have hV7 := hV5.trans hU7
    clear hU7 hV5
    go_wp2_with (first
          | (with_reducible refine arm_load (by with_unfolding_all exact rfl) (by assumption) Tryd.underlying27 (by with_unfolding_all exact rfl) (by assumption) ?_)
          | (with_reducible refine arm_load_g (by with_unfolding_all exact rfl) (by with_unfolding_all exact rfl) (by assumption) Tryd.underlying27 (by with_unfolding_all exact rfl) (by assumption) ?_))
    with_reducible refine (HRN.out _ hV7).mono ?_
    rintro e w8 ⟨rfl, hU8⟩
    have h8_h := hU8.heap h7_h (by simp)
    have hV8 := hV7.trans hU8
    clear hU8 hV7 h7_h
    go_wp2_with (first
          | (with_reducible refine arm_load (by with_unfolding_all exact rfl) (by assumption) Tryd.underlying27 (by with_unfolding_all exact rfl) (by assumption) ?_)
          | (with_reducible refine arm_load_g (by with_unfolding_all exact rfl) (by with_unfolding_all exact rfl) (by assumption) Tryd.underlying27 (by with_unfolding_all exact rfl) (by assumption) ?_)
          | (with_reducible refine arm_alloc (HZZ.out _) ?_))
    intro b9 w9 hb9 hc9 hU9 hz9
    clear hz9
    change w9.heap[b9]? = some (.cells (cz) 27 (0, 0)) at hc9
    go_wp2_with (first
          | (with_reducible refine arm_load (by with_unfolding_all exact rfl) (by assumption) Tryd.underlying27 (by with_unfolding_all exact rfl) (by assumption) ?_)
          | (with_reducible refine arm_load_g (by with_unfolding_all exact rfl) (by with_unfolding_all exact rfl) (by assumption) Tryd.underlying27 (by with_unfolding_all exact rfl) (by assumption) ?_)
          | (with_reducible refine arm_store (by with_unfolding_all exact rfl) (by with_unfolding_all exact rfl) hc9 hsN hoN haN ?_))
    intro w10 h10_n hX10 hz10
    have hU10 := hU9.fresh hb9 hX10
    clear hU9 hc9 hX10 hz10 hb9
    have h10_h := hU10.heap h8_h (by simp)
    have hV10 := hV8.trans hU10
    clear hU10 hV8 h8_h
    go_upto_region 7 with (first
          | (with_reducible refine arm_load (by with_unfolding_all exact rfl) (by assumption) Tryd.underlying27 (by with_unfolding_all exact rfl) (by assumption) ?_)
          | (with_reducible refine arm_load_g (by with_unfolding_all exact rfl) (by with_unfolding_all exact rfl) (by assumption) Tryd.underlying27 (by with_unfolding_all exact rfl) (by assumption) ?_))
    have hQ10_n : Hid (∀ w', Upd [] w10 w' → ∃ t fr, w'.heap[b9]? = some (.cells cN t fr)) := fun w' h => ⟨_, _, h.heap h10_n (by simp)⟩
    refine wp_region_quiet_all (Upd [] w10) (by kernel_rfl) (by kernel_rfl) (Upd.refl _ _).drew ?_
    repeat (first
      | (refine wpQuiet_val rfl (quiet_load_row 27 _ rfl (b9) rfl _ hQ10_n.out Tryd.underlying27 rfl hsN) ?_)
      | (refine wpQuiet_step (fun K hK => ?_)
         go_simp
         first
           | (refine ⟨_, fun _ _ => rfl, hK _ ?_⟩; clear hK K)
           | ((with_reducible refine ⟨_, fun w2 hw2 => (HSN.out w2 (hV10.trans hw2)).mono (fun e w' h => ⟨h.1, hw2.trans h.2⟩), hK _ ?_⟩); clear hK K)
           | (refine hK _ ?_; clear hK K)))
    refine wpQuiet_nil ?_
    intro w11 hU11
    clear hQ10_n
    have h11_h := hU11.heap h10_h (by simp)
    have h11_n := hU11.heap h10_n (by simp)
    have hV11 := hV10.trans hU11
    clear hU11 hV10 h10_h h10_n
    go_upto_region 12 with (first
          | (with_reducible refine arm_load (by with_unfolding_all exact rfl) (by assumption) Tryd.underlying27 (by with_unfolding_all exact rfl) (by assumption) ?_)
          | (with_reducible refine arm_load_g (by with_unfolding_all exact rfl) (by with_unfolding_all exact rfl) (by assumption) Tryd.underlying27 (by with_unfolding_all exact rfl) (by assumption) ?_))
    have HE : Hid (∀ w', Upd [] w11 w' → w'.rangeAt g0 p0 lx) := fun w' h j v hj => h.cell (hV11.cell (HEL.out j v hj) (by simp)) (by simp)
    have hQ11_h : Hid (∀ w', Upd [] w11 w' → ∃ t fr, w'.heap[b6]? = some (.cells (lx.toArray) t fr)) := fun w' h => ⟨_, _, h.heap h11_h (by simp)⟩
    refine wp_region_quiet_all (Upd [] w11) (by kernel_rfl) (by kernel_rfl) (Upd.refl _ _).drew ?_
    repeat (first
      | (refine wpQuiet_val rfl (quiet_load_row 27 _ rfl (b6) rfl _ hQ11_h.out Tryd.underlying27 rfl hsR) ?_)
      | (refine wpQuiet_val rfl (quiet_load_mid 27 _ rfl g0 p0 rfl _ HE.out Tryd.underlying27 rfl hsl) ?_)
      | (refine wpQuiet_step (fun K hK => ?_)
         go_simp
         first
           | (refine ⟨_, fun _ _ => rfl, hK _ ?_⟩; clear hK K)
           | (refine hK _ ?_; clear hK K)))
    refine wpQuiet_nil ?_
    intro w12 hU12
    clear hQ11_h
    have h12_h := hU12.heap h11_h (by simp)
    have h12_n := hU12.heap h11_n (by simp)
    have hV12 := hV11.trans hU12
    clear hU12 hV11 h11_h h11_n
    go_wp2
    go_ret
    exact ⟨rfl, hV12⟩
  | x :: y :: r, hnn =>
    obtain ⟨l, hl⟩ : ∃ l, x :: y :: r = l := ⟨_, rfl⟩
    have hn2 : 1 < n := by rw [← hnn]; simp
    rw [hl] at hnn HV HRR
    clear hl
    have hroot := rootOf_more l (by omega)
    rw [hnn, HRR.out] at hroot
    have hk1 := halfN_lt hn2
    have hk0 := halfN_pos n
    have HHF : Hid (∀ W, Calls Tryd.prog 19 #[.int .i64 n] W fun e w' => e = .returned (.int .i64 (halfN n)) ∧ W = w') := fun W => half_ W n hn2 (by omega)
    obtain ⟨k, hk⟩ : ∃ k, halfN n = k := ⟨_, rfl⟩
    rw [hk] at hk1 hk0 hroot HHF
    obtain ⟨BL, hL, hvL⟩ := HV.out.cut2 0 k none (some (.int .i64 k)) (.inl ⟨rfl, rfl⟩) (.inr rfl) (by omega) (by omega)
    obtain ⟨BR, hR, hvR⟩ := HV.out.cut2 k n (some (.int .i64 k)) none (.inr rfl) (.inl ⟨rfl, rfl⟩) (by omega) (Nat.le_refl _)
    rw [List.drop_zero] at hvL
    rw [List.take_of_length_le (by omega)] at hvR
    simp only [Nat.sub_zero] at hL hvL
    obtain ⟨q1, hq1'⟩ : ∃ q, n - k = q := ⟨_, rfl⟩
    obtain ⟨q2, hq2'⟩ : ∃ q, c - k = q := ⟨_, rfl⟩
    rw [hq1', hq2'] at hvR hR
    have HRA : Hid (∀ W, Upd [] w W → Calls Tryd.prog 18 #[.slice BL k c] W fun e w' => e = .returned (.tuple #[.agg ((rootOf (l.take k)).map U8).toArray, .bool true]) ∧ Upd [] W w') := fun W hW => mroot_ W _ _ (hvL.upd0 hW) (by simp; omega) (HG.out.upd hW (by simp)) (HF.out.upd hW (by simp))
    have HRB : Hid (∀ W, Upd [] w W → Calls Tryd.prog 18 #[.slice BR q1 q2] W fun e w' => e = .returned (.tuple #[.agg ((rootOf (l.drop k)).map U8).toArray, .bool true]) ∧ Upd [] W w') := fun W hW => mroot_ W _ _ (hvR.upd0 hW) (by simp; omega) (HG.out.upd hW (by simp)) (HF.out.upd hW (by simp))
    have hAl : (rootOf (l.take k)).length = 32 := rootOf_length _ hvL.1
    have hBl : (rootOf (l.drop k)).length = 32 := rootOf_length _ hvR.1
    obtain ⟨LA, hLA⟩ : ∃ x, rootOf (l.take k) = x := ⟨_, rfl⟩
    obtain ⟨LB, hLB⟩ : ∃ x, rootOf (l.drop k) = x := ⟨_, rfl⟩
    rw [hLA] at HRA hAl hroot
    rw [hLB] at HRB hBl hroot
    have hsA := szrow hAl
    have hoA := sameZ hAl
    have haA := oneAll LA
    have hsB := szrow hBl
    have hoB := sameZ hBl
    have haB := oneAll LB
    have HND : Hid (∀ W, Upd [] w W → Calls Tryd.prog 20 #[.agg (LA.map U8).toArray, .agg (LB.map U8).toArray] W fun e w' => e = .returned (.agg cR) ∧ Upd [] W w') := fun W hW => by
      rw [← HCR.out, hroot]
      exact node_ W LA LB hAl hBl (HG.out.upd hW (by simp)) (HF.out.upd hW (by simp))
    have HSB : Hid (∀ W u, Upd [] w W → RdB W u (([1] ++ LA) ++ LB) → Calls Tryd.prog 17 #[u] W fun e w' => e = .returned (.agg cR) ∧ Upd [] W w') := fun W u hW hu => by
      rw [← HCR.out, hroot]
      exact sum256 W u _ hu (by simp; omega) (HG.out.upd hW (by simp)) (HF.out.upd hW (by simp))
    have HRDA : Hid (∀ (W : World) b T fr, W.heap[b]? = some (.cells (LA.map U8).toArray T fr) → RdB W (.slice (some ⟨b, 0, none⟩) 32 32) LA) := fun W b T fr h => rd_row h hAl
    have HRDB : Hid (∀ (W : World) b T fr, W.heap[b]? = some (.cells (LB.map U8).toArray T fr) → RdB W (.slice (some ⟨b, 0, none⟩) 32 32) LB) := fun W b T fr h => rd_row h hBl
    obtain ⟨cA, hcA⟩ : ∃ c, (LA.map U8).toArray = c := ⟨_, rfl⟩
    obtain ⟨cB, hcB⟩ : ∃ c, (LB.map U8).toArray = c := ⟨_, rfl⟩
    rw [hcA] at HRA HND HRDA hsA hoA haA
    rw [hcB] at HRB HND HRDB hsB hoB haB
    have hcz : zrow8 32 = cz := by
      have := HZZ.out w
      rw [zero_h32] at this
      injection this with h1 h2
      injection h1
    rw [hcz] at hoA hoB
    have hne0 : ¬ ((n : Int) = 0) := by omega
    have hne1 : ¬ ((n : Int) = 1) := by omega
    have HAL := Lib.hid hAl
    have HBL := Lib.hid hBl
    have HL := Lib.hid hL
    have HR := Lib.hid hR
    clear hroot hk hvL hvR hq1' hq2' hLA hLB hAl hBl hcA hcB hcz hnn hL hR
    go_enter Tryd.func5, Tryd.ntmps5
    go_wp2_with (first
          | (with_reducible refine arm_load (by with_unfolding_all exact rfl) (by assumption) Tryd.underlying27 (by with_unfolding_all exact rfl) (by assumption) ?_)
          | (with_reducible refine arm_load_g (by with_unfolding_all exact rfl) (by with_unfolding_all exact rfl) (by assumption) Tryd.underlying27 (by with_unfolding_all exact rfl) (by assumption) ?_))
    with_reducible refine (HLf.out _ (Upd.refl [] w)).mono ?_
    rintro e w1 ⟨rfl, hU1⟩
    have hV1 : Upd [] w w1 := hU1
    clear hU1
    go_wp2_with (first
          | (with_reducible refine arm_load (by with_unfolding_all exact rfl) (by assumption) Tryd.underlying27 (by with_unfolding_all exact rfl) (by assumption) ?_)
          | (with_reducible refine arm_load_g (by with_unfolding_all exact rfl) (by with_unfolding_all exact rfl) (by assumption) Tryd.underlying27 (by with_unfolding_all exact rfl) (by assumption) ?_)
          | (with_reducible refine bs1own (y := 0) (by with_unfolding_all exact rfl) ?_))
    intro g2 w2 hg2 hO2 hU2
    have hl2 : w.heap.size ≤ g2 := by have := hV1.size; omega
    have hB2 : g2 ≤ w2.heap.size := by have := hU2.size; omega
    clear hg2
    have hV2 := hV1.trans hU2
    clear hU2 hV1
    have hD2 := HD.out.upd0 hV2
    go_wp2_with (first
          | (with_reducible refine arm_load (by with_unfolding_all exact rfl) (by assumption) Tryd.underlying27 (by with_unfolding_all exact rfl) (by assumption) ?_)
          | (with_reducible refine arm_load_g (by with_unfolding_all exact rfl) (by with_unfolding_all exact rfl) (by assumption) Tryd.underlying27 (by with_unfolding_all exact rfl) (by assumption) ?_)
          | (refine append_rd rfl _ _ rfl g2 (.slice (some ⟨g2, 0, none⟩) 1 1) [0] rfl hO2 (.slice D m dc) data rfl hD2 (by have := HMS.out; simp; omega) hB2 ?_))
    intro v3 w3 hO3 hO23 hU3 hG3
    have hV3 := hV2.row hU3 (fun g hg => by have := (hO2.lt g hg).1; omega)
    have hr3 := hO3.rd
    clear hO3 hO23 hU3 hG3 hO2 hD2 hB2 hV2
    go_wp2_with (first
          | (with_reducible refine arm_load (by with_unfolding_all exact rfl) (by assumption) Tryd.underlying27 (by with_unfolding_all exact rfl) (by assumption) ?_)
          | (with_reducible refine arm_load_g (by with_unfolding_all exact rfl) (by with_unfolding_all exact rfl) (by assumption) Tryd.underlying27 (by with_unfolding_all exact rfl) (by assumption) ?_))
    with_reducible refine (HS1.out _ _ hV3 hr3).mono ?_
    rintro e w4 ⟨rfl, hU4⟩
    have hV4 := hV3.trans hU4
    clear hU4 hV3
    clear hr3
    go_wp2_with (first
          | (with_reducible refine arm_load (by with_unfolding_all exact rfl) (by assumption) Tryd.underlying27 (by with_unfolding_all exact rfl) (by assumption) ?_)
          | (with_reducible refine arm_load_g (by with_unfolding_all exact rfl) (by with_unfolding_all exact rfl) (by assumption) Tryd.underlying27 (by with_unfolding_all exact rfl) (by assumption) ?_))
    with_reducible refine (HRT.out _ hV4).mono ?_
    rintro e w5 ⟨rfl, hU5⟩
    have hV5 := hV4.trans hU5
    clear hU5 hV4
    go_wp2_with (first
          | (with_reducible refine arm_load (by with_unfolding_all exact rfl) (by assumption) Tryd.underlying27 (by with_unfolding_all exact rfl) (by assumption) ?_)
          | (with_reducible refine arm_load_g (by with_unfolding_all exact rfl) (by with_unfolding_all exact rfl) (by assumption) Tryd.underlying27 (by with_unfolding_all exact rfl) (by assumption) ?_)
          | (with_reducible refine arm_alloc (HZZ.out _) ?_))
    intro b6 w6 hb6 hc6 hU6 hz6
    clear hz6
    change w6.heap[b6]? = some (.cells (cz) 27 (0, 0)) at hc6
    go_wp2_with (first
          | (with_reducible refine arm_load (by with_unfolding_all exact rfl) (by assumption) Tryd.underlying27 (by with_unfolding_all exact rfl) (by assumption) ?_)
          | (with_reducible refine arm_load_g (by with_unfolding_all exact rfl) (by with_unfolding_all exact rfl) (by assumption) Tryd.underlying27 (by with_unfolding_all exact rfl) (by assumption) ?_)
          | (with_reducible refine arm_store (by with_unfolding_all exact rfl) (by with_unfolding_all exact rfl) hc6 hsR hoR haR ?_))
    intro w7 h7_h hX7 hz7
    have hU7 := hU6.fresh hb6 hX7
    clear hU6 hc6 hX7 hz7 hb6
    have hV7 := hV5.trans hU7
    clear hU7 hV5
    go_wp2_with (first
          | (with_reducible refine arm_load (by with_unfolding_all exact rfl) (by assumption) Tryd.underlying27 (by with_unfolding_all exact rfl) (by assumption) ?_)
          | (with_reducible refine arm_load_g (by with_unfolding_all exact rfl) (by with_unfolding_all exact rfl) (by assumption) Tryd.underlying27 (by with_unfolding_all exact rfl) (by assumption) ?_))
    with_reducible refine (HRN.out _ hV7).mono ?_
    rintro e w8 ⟨rfl, hU8⟩
    have h8_h := hU8.heap h7_h (by simp)
    have hV8 := hV7.trans hU8
    clear hU8 hV7 h7_h
    go_wp2_with (first
          | (with_reducible refine arm_load (by with_unfolding_all exact rfl) (by assumption) Tryd.underlying27 (by with_unfolding_all exact rfl) (by assumption) ?_)
          | (with_reducible refine arm_load_g (by with_unfolding_all exact rfl) (by with_unfolding_all exact rfl) (by assumption) Tryd.underlying27 (by with_unfolding_all exact rfl) (by assumption) ?_)
          | (with_reducible refine arm_alloc (HZZ.out _) ?_))
    intro b9 w9 hb9 hc9 hU9 hz9
    clear hz9
    change w9.heap[b9]? = some (.cells (cz) 27 (0, 0)) at hc9
    go_wp2_with (first
          | (with_reducible refine arm_load (by with_unfolding_all exact rfl) (by assumption) Tryd.underlying27 (by with_unfolding_all exact rfl) (by assumption) ?_)
          | (with_reducible refine arm_load_g (by with_unfolding_all exact rfl) (by with_unfolding_all exact rfl) (by assumption) Tryd.underlying27 (by with_unfolding_all exact rfl) (by assumption) ?_)
          | (with_reducible refine arm_store (by with_unfolding_all exact rfl) (by with_unfolding_all exact rfl) hc9 hsN hoN haN ?_))
    intro w10 h10_n hX10 hz10
    have hU10 := hU9.fresh hb9 hX10
    clear hU9 hc9 hX10 hz10 hb9
    have h10_h := hU10.heap h8_h (by simp)
    have hV10 := hV8.trans hU10
    clear hU10 hV8 h8_h
    go_upto_region 7 with (first
          | (with_reducible refine arm_load (by with_unfolding_all exact rfl) (by assumption) Tryd.underlying27 (by with_unfolding_all exact rfl) (by assumption) ?_)
          | (with_reducible refine arm_load_g (by with_unfolding_all exact rfl) (by with_unfolding_all exact rfl) (by assumption) Tryd.underlying27 (by with_unfolding_all exact rfl) (by assumption) ?_))
    have hQ10_n : Hid (∀ w', Upd [] w10 w' → ∃ t fr, w'.heap[b9]? = some (.cells cN t fr)) := fun w' h => ⟨_, _, h.heap h10_n (by simp)⟩
    refine wp_region_quiet_all (Upd [] w10) (by kernel_rfl) (by kernel_rfl) (Upd.refl _ _).drew ?_
    repeat (first
      | (refine wpQuiet_val rfl (quiet_load_row 27 _ rfl (b9) rfl _ hQ10_n.out Tryd.underlying27 rfl hsN) ?_)
      | (refine wpQuiet_step (fun K hK => ?_)
         go_simp
         first
           | (refine ⟨_, fun _ _ => rfl, hK _ ?_⟩; clear hK K)
           | ((with_reducible refine ⟨_, fun w2 hw2 => (HSN.out w2 (hV10.trans hw2)).mono (fun e w' h => ⟨h.1, hw2.trans h.2⟩), hK _ ?_⟩); clear hK K)
           | (refine hK _ ?_; clear hK K)))
    refine wpQuiet_nil ?_
    intro w11 hU11
    clear hQ10_n
    have h11_h := hU11.heap h10_h (by simp)
    have h11_n := hU11.heap h10_n (by simp)
    have hV11 := hV10.trans hU11
    clear hU11 hV10 h10_h h10_n
    go_wp2_with (first
          | (with_reducible refine arm_load (by with_unfolding_all exact rfl) (by assumption) Tryd.underlying27 (by with_unfolding_all exact rfl) (by assumption) ?_)
          | (with_reducible refine arm_load_g (by with_unfolding_all exact rfl) (by with_unfolding_all exact rfl) (by assumption) Tryd.underlying27 (by with_unfolding_all exact rfl) (by assumption) ?_))
    with_reducible refine (HHF.out _).mono ?_
    rintro e w12 ⟨rfl, rfl⟩
    go_wp2_with (first
          | (with_reducible refine arm_load (by with_unfolding_all exact rfl) (by assumption) Tryd.underlying27 (by with_unfolding_all exact rfl) (by assumption) ?_)
          | (with_reducible refine arm_load_g (by with_unfolding_all exact rfl) (by with_unfolding_all exact rfl) (by assumption) Tryd.underlying27 (by with_unfolding_all exact rfl) (by assumption) ?_)
          | (with_reducible refine arm_slice (by with_unfolding_all exact rfl) (by with_unfolding_all exact rfl) (by with_unfolding_all exact rfl) (by with_unfolding_all exact rfl) HL.out ?_))
    with_reducible refine (HRA.out _ hV11).mono ?_
    rintro e w12 ⟨rfl, hU12⟩
    have h12_h := hU12.heap h11_h (by simp)
    have h12_n := hU12.heap h11_n (by simp)
    have hV12 := hV11.trans hU12
    clear hU12 hV11 h11_h h11_n
    go_wp2_with (first
          | (with_reducible refine arm_load (by with_unfolding_all exact rfl) (by assumption) Tryd.underlying27 (by with_unfolding_all exact rfl) (by assumption) ?_)
          | (with_reducible refine arm_load_g (by with_unfolding_all exact rfl) (by with_unfolding_all exact rfl) (by assumption) Tryd.underlying27 (by with_unfolding_all exact rfl) (by assumption) ?_)
          | (with_reducible refine arm_alloc (HZZ.out _) ?_))
    intro b13 w13 hb13 hc13 hU13 hz13
    clear hz13
    change w13.heap[b13]? = some (.cells (cz) 27 (0, 0)) at hc13
    go_wp2_with (first
          | (with_reducible refine arm_load (by with_unfolding_all exact rfl) (by assumption) Tryd.underlying27 (by with_unfolding_all exact rfl) (by assumption) ?_)
          | (with_reducible refine arm_load_g (by with_unfolding_all exact rfl) (by with_unfolding_all exact rfl) (by assumption) Tryd.underlying27 (by with_unfolding_all exact rfl) (by assumption) ?_)
          | (with_reducible refine arm_store (by with_unfolding_all exact rfl) (by with_unfolding_all exact rfl) hc13 hsA hoA haA ?_))
    intro w14 h14_a hX14 hz14
    have hU14 := hU13.fresh hb13 hX14
    clear hU13 hc13 hX14 hz14 hb13
    have h14_h := hU14.heap h12_h (by simp)
    have h14_n := hU14.heap h12_n (by simp)
    have hV14 := hV12.trans hU14
    clear hU14 hV12 h12_h h12_n
    go_wp2_with (first
          | (with_reducible refine arm_load (by with_unfolding_all exact rfl) (by assumption) Tryd.underlying27 (by with_unfolding_all exact rfl) (by assumption) ?_)
          | (with_reducible refine arm_load_g (by with_unfolding_all exact rfl) (by with_unfolding_all exact rfl) (by assumption) Tryd.underlying27 (by with_unfolding_all exact rfl) (by assumption) ?_)
          | (with_reducible refine arm_slice (by with_unfolding_all exact rfl) (by with_unfolding_all exact rfl) (by with_unfolding_all exact rfl) (by with_unfolding_all exact rfl) HR.out ?_))
    with_reducible refine (HRB.out _ hV14).mono ?_
    rintro e w15 ⟨rfl, hU15⟩
    have h15_h := hU15.heap h14_h (by simp)
    have h15_n := hU15.heap h14_n (by simp)
    have h15_a := hU15.heap h14_a (by simp)
    have hV15 := hV14.trans hU15
    clear hU15 hV14 h14_h h14_n h14_a
    go_wp2_with (first
          | (with_reducible refine arm_load (by with_unfolding_all exact rfl) (by assumption) Tryd.underlying27 (by with_unfolding_all exact rfl) (by assumption) ?_)
          | (with_reducible refine arm_load_g (by with_unfolding_all exact rfl) (by with_unfolding_all exact rfl) (by assumption) Tryd.underlying27 (by with_unfolding_all exact rfl) (by assumption) ?_)
          | (with_reducible refine arm_alloc (HZZ.out _) ?_))
    intro b16 w16 hb16 hc16 hU16 hz16
    clear hz16
    change w16.heap[b16]? = some (.cells (cz) 27 (0, 0)) at hc16
    go_wp2_with (first
          | (with_reducible refine arm_load (by with_unfolding_all exact rfl) (by assumption) Tryd.underlying27 (by with_unfolding_all exact rfl) (by assumption) ?_)
          | (with_reducible refine arm_load_g (by with_unfolding_all exact rfl) (by with_unfolding_all exact rfl) (by assumption) Tryd.underlying27 (by with_unfolding_all exact rfl) (by assumption) ?_)
          | (with_reducible refine arm_store (by with_unfolding_all exact rfl) (by with_unfolding_all exact rfl) hc16 hsB hoB haB ?_))
    intro w17 h17_b hX17 hz17
    have hU17 := hU16.fresh hb16 hX17
    clear hU16 hc16 hX17 hz17 hb16
    have h17_h := hU17.heap h15_h (by simp)
    have h17_n := hU17.heap h15_n (by simp)
    have h17_a := hU17.heap h15_a (by simp)
    have hV17 := hV15.trans hU17
    clear hU17 hV15 h15_h h15_n h15_a
    go_upto_region 16 with (first
          | (with_reducible refine arm_load (by with_unfolding_all exact rfl) (by assumption) Tryd.underlying27 (by with_unfolding_all exact rfl) (by assumption) ?_)
          | (with_reducible refine arm_load_g (by with_unfolding_all exact rfl) (by with_unfolding_all exact rfl) (by assumption) Tryd.underlying27 (by with_unfolding_all exact rfl) (by assumption) ?_))
    refine wp_region_orders [1, 3] (.step 0 (.step 2 (.step 4 (.step 5 .none .none) .none) .none) .none) (Upd [] w17) (by kernel_rfl) (by kernel_rfl) ((Upd.refl _ _).drew) ?_
    refine takeO_cons _ (.slice (some ⟨b13, 0, none⟩) 32 32) rfl (by kernel_rfl) (fun w _ => by kernel_rfl) ?_
    refine takeO_cons _ (.slice (some ⟨b16, 0, none⟩) 32 32) rfl (by kernel_rfl) (fun w _ => by kernel_rfl) ?_
    refine takeO_nil (by simp [Ord.first]) ?_
    refine ordP_step _ (by simp only [List.getElem?_toArray, List.getElem?_cons_zero]; rfl) ?_ ordP_none
    with_reducible refine bs1own (y := 1) (by with_unfolding_all exact rfl) ?_
    intro gx1 wx1 hbx1 hNx1 hUx1
    have hlx1 : w17.heap.size ≤ gx1 := by have := ((Upd.refl [] w17).drew).size; omega
    have hBx1 : gx1 ≤ wx1.heap.size := by have := hUx1.size; omega
    clear hbx1
    have hTx1 := (Upd.refl [] w17).drew.trans hUx1
    go_wp2_with fail
    refine ord_more (by simp [Ord.first]) (hTx1) ?_
    refine ordP_step _ (by simp only [List.getElem?_toArray, List.getElem?_cons_succ, List.getElem?_cons_zero]; rfl) ?_ ordP_none
    have hrx2 := HRDA.out _ _ _ _ ((hTx1).heap h17_a (by simp))
    refine append_rd rfl _ _ rfl gx1 (.slice (some ⟨gx1, 0, none⟩) 1 1) ([1]) rfl hNx1 _ LA rfl hrx2 (by have := HAL.out; have := HBL.out; simp; omega) hBx1 ?_
    intro vx2 wx2 hNx2 hN2x2 hUx2 hGx2
    have hTx2 := (hTx1).row hUx2 (fun g hg => by have := (hNx1.lt g hg).1; omega)
    have hBx2 : gx1 ≤ wx2.heap.size := by have := hUx2.size; omega
    clear hN2x2 hUx2 hGx2 hrx2
    go_wp2_with fail
    refine ord_more (by simp [Ord.first]) (hTx2) ?_
    refine ordP_step _ (by simp only [List.getElem?_toArray, List.getElem?_cons_succ, List.getElem?_cons_zero]; rfl) ?_ ordP_none
    have hrx3 := HRDB.out _ _ _ _ ((hTx2).heap h17_b (by simp))
    refine append_rd rfl _ _ rfl gx1 (vx2) (([1]) ++ LA) rfl hNx2 _ LB rfl hrx3 (by have := HAL.out; have := HBL.out; simp; omega) hBx2 ?_
    intro vx3 wx3 hNx3 hN2x3 hUx3 hGx3
    have hTx3 := (hTx2).row hUx3 (fun g hg => by have := (hNx2.lt g hg).1; omega)
    have hBx3 : gx1 ≤ wx3.heap.size := by have := hUx3.size; omega
    clear hN2x3 hUx3 hGx3 hrx3
    go_wp2_with fail
    refine ord_more (by simp [Ord.first]) (hTx3) ?_
    refine ordP_step _ (by simp only [List.getElem?_toArray, List.getElem?_cons_succ, List.getElem?_cons_zero]; rfl) ?_ ordP_none
    go_wp2_with fail
    refine ord_last (hTx3) ?_
    show Exit.then _ _ Exit.normal _ _
    have r18_s := hNx3.rd
    have hU18 := hTx3
    obtain ⟨w18, rfl⟩ : ∃ W : World, W = wx3 := ⟨_, rfl⟩
    have h18_h := hU18.heap h17_h (by simp)
    have h18_n := hU18.heap h17_n (by simp)
    have h18_a := hU18.heap h17_a (by simp)
    have h18_b := hU18.heap h17_b (by simp)
    have hV18 := hV17.trans hU18
    clear hU18 hV17 h17_h h17_n h17_a h17_b
    go_upto_region 17 with (first
      | (with_reducible refine arm_load (by with_unfolding_all exact rfl) (by assumption) Tryd.underlying27 (by with_unfolding_all exact rfl) (by assumption) ?_)
      | (with_reducible refine arm_load_g (by with_unfolding_all exact rfl) (by with_unfolding_all exact rfl) (by assumption) Tryd.underlying27 (by with_unfolding_all exact rfl) (by assumption) ?_))
    have hQ18_h : Hid (∀ w', Upd [] w18 w' → ∃ t fr, w'.heap[b6]? = some (.cells cR t fr)) := fun w' h => ⟨_, _, h.heap h18_h (by simp)⟩
    have hQ18_a : Hid (∀ w', Upd [] w18 w' → ∃ t fr, w'.heap[b13]? = some (.cells cA t fr)) := fun w' h => ⟨_, _, h.heap h18_a (by simp)⟩
    have hQ18_b : Hid (∀ w', Upd [] w18 w' → ∃ t fr, w'.heap[b16]? = some (.cells cB t fr)) := fun w' h => ⟨_, _, h.heap h18_b (by simp)⟩
    refine wp_region_quiet_all (Upd [] w18) (by kernel_rfl) (by kernel_rfl) (Upd.refl _ _).drew ?_
    repeat (first
      | (refine wpQuiet_val rfl (quiet_load_row 27 _ rfl (b6) rfl _ hQ18_h.out Tryd.underlying27 rfl hsR) ?_)
      | (refine wpQuiet_val rfl (quiet_load_row 27 _ rfl (b13) rfl _ hQ18_a.out Tryd.underlying27 rfl hsA) ?_)
      | (refine wpQuiet_val rfl (quiet_load_row 27 _ rfl (b16) rfl _ hQ18_b.out Tryd.underlying27 rfl hsB) ?_)
      | (refine wpQuiet_step (fun K hK => ?_)
         go_simp
         first
           | (refine ⟨_, fun _ _ => rfl, hK _ ?_⟩; clear hK K)
           | ((with_reducible refine ⟨_, fun w2 hw2 => (HND.out w2 (hV18.trans hw2)).mono (fun e w' h => ⟨h.1, hw2.trans h.2⟩), hK _ ?_⟩); clear hK K)
           | ((with_reducible refine ⟨_, fun w2 hw2 => (HSB.out w2 _ (hV18.trans hw2) (r18_s.upd0 hw2)).mono (fun e w' h => ⟨h.1, hw2.trans h.2⟩), hK _ ?_⟩); clear hK K)
           | (refine hK _ ?_; clear hK K)))
    refine wpQuiet_nil ?_
    intro w19 hU19
    clear hQ18_h hQ18_a hQ18_b
    have h19_h := hU19.heap h18_h (by simp)
    have h19_n := hU19.heap h18_n (by simp)
    have h19_a := hU19.heap h18_a (by simp)
    have h19_b := hU19.heap h18_b (by simp)
    have r19_s := r18_s.upd0 hU19
    have hV19 := hV18.trans hU19
    clear hU19 hV18 h18_h h18_n h18_a h18_b r18_s
    go_wp2
    go_ret
    exact ⟨rfl, hV19⟩
end Go.Proofs.YtdfoffheolbokaaDoor
