/-
  The law MerkleProves: what is there is proved: every path and every bridge is taken.
-/
import Derived.Test.YtdfoffheolbokaaDoorCons
import Derived.Test.YtdfoffheolbokaaDoorCheckC0
namespace Go.Proofs.YtdfoffheolbokaaDoor
open Go Go.RowKit Go.Proofs
set_option maxRecDepth 100000 in
theorem node_zero : (nodeH (List.replicate 32 0) (List.replicate 32 0) == List.replicate 32 0) = false := by decide +kernel
theorem proves_incl (ls : List H8) (i : Nat) (hi : i < ls.length) : takenI ls[i] i ls.length (pathDown ls i).reverse (rootOf ls) = true := by
  unfold takenI
  have h1 := pathDown_length ls.length ls i rfl
  have h2 := climb_path ls.length ls i rfl hi
  rw [h2, List.length_reverse, h1]
  simp
theorem proves_cons (ls : List H8) (m : Nat) (h0 : 0 < m) (hm : m ≤ ls.length) : takenC m ls.length (rootOf (ls.take m)) (rootOf ls) (bridgeOf ls m) = true := by
  unfold takenC bridgeOf
  have h1 := bridgeDown_length ls.length ls m rfl h0 hm
  have h2 := cross_bridge ls.length ls m rfl h0 hm
  rw [if_neg (by omega)]
  by_cases hl : lastAt m ls.length = 0
  · rw [hl] at h2
    rw [List.drop_zero] at h2
    simp only [hl, Nat.lt_irrefl, if_false, List.append_nil, startC, beq_self_eq_true, if_true, h2, List.length_reverse, h1, Bool.and_self]
  · have hp : 0 < lastAt m ls.length := by omega
    have hb : (lastAt m ls.length == 0) = false := by simp [hl]
    simp only [if_pos hp, hb, List.reverse_append, List.reverse_cons, List.reverse_nil, List.nil_append, List.cons_append, startC, Bool.false_eq_true, if_false, h2, List.length_reverse, h1, beq_self_eq_true, Bool.and_self]
/-- an operation that is not wanted -/
theorem wpQuiet_skip {P : Program} {ops : Array Oper} {C : World → Prop} {Q : Act → Prop} {a : Act} {o : Oper} {rest : List Oper} (hw : Region.wanted o (yielded ops a.tmps) = false) (hn : wpQuiet P ops C Q rest (a.put o.dst undef)) : wpQuiet P ops C Q (o :: rest) a := by
  unfold wpQuiet
  rw [if_neg (by simp [hw])]
  exact hn
theorem bridgeOf_le (ls : List H8) (m : Nat) (h0 : 0 < m) (hm : m ≤ ls.length) : (bridgeOf ls m).length ≤ ls.length + 1 := by
  have h1 := bridgeDown_length ls.length ls m rfl h0 hm
  have h2 := wayDown_bd ls.length m h0
  unfold bridgeOf
  split
  · simp; omega
  · simp; omega
set_option maxRecDepth 100000 in
set_option maxHeartbeats 12800000 in
theorem law_proves16 (w : World) (v : Value) (ls : List H8) (ix fs : Int) (hv : RdH w v ls) (hg : Gl256 w) (hf : GlFirst256 w) :
    Calls Tryd.prog 9 #[v, .int .i64 ix, .int .i64 fs] w fun x w' => x = .returned (.bool true) ∧ Upd [] w w' := by
  obtain ⟨A, c, e, hc1, hc2⟩ := hv.isSlice
  obtain ⟨n, hn⟩ : ∃ n, ls.length = n := ⟨_, rfl⟩
  rw [hn] at e hc1
  by_cases hbig : 200 < n
  · have h1 : (n : Int) > 200 := by omega
    rw [e]
    clear hv hg hf hn e hbig
    go_enter Tryd.func9, Tryd.ntmps9
    go_wp2_with (fail)
    go_ret
    exact ⟨rfl, Upd.refl _ w⟩
  have hn200 : (n : Int) ≤ 200 := by omega
  have HRT : Hid (∀ W, Upd [] w W → Calls Tryd.prog 18 #[v] W fun e w' => e = .returned (.tuple #[.agg ((rootOf ls).map U8).toArray, .bool true]) ∧ Upd [] W w') := fun W hW => mroot_ W v ls (hv.upd0 hW) (by omega) (hg.upd hW (by simp)) (hf.upd hW (by simp))
  have HNZ : Hid (∀ W, Upd [] w W → Calls Tryd.prog 20 #[.agg (zrow8 32), .agg (zrow8 32)] W fun e w' => e = .returned (.agg ((nodeH (List.replicate 32 0) (List.replicate 32 0)).map U8).toArray) ∧ Upd [] W w') := fun W hW => by
    rw [zrow_h]
    exact node_ W _ _ (by simp) (by simp) (hg.upd hW (by simp)) (hf.upd hW (by simp))
  have HIB : Hid (n ≤ ls.length ∧ (ix < 0 ∨ (n : Int) ≤ ix) → ∀ W, Calls Tryd.prog 25 #[.slice A n c, .int .i64 ix] W fun e w' => e = .returned (.tuple #[.slice none 0 0, .bool false]) ∧ Upd [] W w') := fun h W => inclusion_bad W A n c ix (.inr h.2)
  have HIN : Hid (∀ (i : Nat), i < n → ∀ W, Upd [] w W → Calls Tryd.prog 25 #[.slice A n c, .int .i64 i] W fun e w' => ∃ u, e = .returned (.tuple #[u, .bool true]) ∧ OwnH w' W.heap.size u (pathDown ls i).reverse ∧ Upd [] W w') := fun i hi W hW => by
    rw [← e]
    exact inclusion_ W v ls i (hv.upd0 hW) (by omega) (by omega) (hg.upd hW (by simp)) (hf.upd hW (by simp))
  have HCB : Hid ((fs < 0 ∨ (n : Int) < fs) → ∀ W, Calls Tryd.prog 26 #[.slice A n c, .int .i64 fs] W fun e w' => e = .returned (.tuple #[.slice none 0 0, .bool false]) ∧ Upd [] W w') := fun h W => consistency_bad W A n c fs (.inr h)
  have HC0 : Hid (∀ W, Calls Tryd.prog 26 #[.slice A n c, .int .i64 0] W fun e w' => e = .returned (.tuple #[.slice none 0 0, .bool true]) ∧ Upd [] W w') := fun W => consistency_zero W A n c (by omega)
  have HCN : Hid (∀ (m : Nat), 0 < m → m ≤ n → ∀ W, Upd [] w W → Calls Tryd.prog 26 #[.slice A n c, .int .i64 m] W fun e w' => ∃ u, e = .returned (.tuple #[u, .bool true]) ∧ OwnH w' W.heap.size u (bridgeOf ls m) ∧ Upd [] W w') := fun m h0 hm W hW => by
    rw [← e]
    exact consistency_ W v ls m (hv.upd0 hW) (by omega) h0 (by omega) (hg.upd hW (by simp)) (hf.upd hW (by simp))
  have hRl : (rootOf ls).length = 32 := rootOf_length ls hv.1
  have HLI : Hid (∀ (i : Nat) (hi : i < n), ∀ x, (∃ h : i < ls.length, ls[i] = x) → x.length = 32 ∧ ∀ W u, Upd [] w W → RdH W u (pathDown ls i).reverse → Calls Tryd.prog 21 #[.agg (x.map U8).toArray, .int .i64 i, .int .i64 n, u, .agg ((rootOf ls).map U8).toArray] W fun e w' => e = .returned (.bool true) ∧ Upd [] W w') := fun i hi x hx => by
    obtain ⟨h, rfl⟩ := hx
    have hl := hv.1 _ (List.getElem_mem h)
    refine ⟨hl, fun W u hW hu => ?_⟩
    have h1 := pathDown_length n ls i hn
    have h2 := sidesDown_bd n i
    have := checkI_ W ls[i] (rootOf ls) i n u _ hl hRl hi (by omega) hu (by simp; omega) (hg.upd hW (by simp)) (hf.upd hW (by simp))
    have ht := proves_incl ls i h
    rw [hn] at ht
    rwa [ht] at this
  have HLC : Hid (∀ (m : Nat), 0 < m → m ≤ n → ∀ W u, Upd [] w W → RdH W u (bridgeOf ls m) → Calls Tryd.prog 27 #[.int .i64 m, .int .i64 n, .agg ((rootOf (ls.take m)).map U8).toArray, .agg ((rootOf ls).map U8).toArray, u] W fun e w' => e = .returned (.bool true) ∧ Upd [] W w') := fun m h0 hm W u hW hu => by
    have hl : (rootOf (ls.take m)).length = 32 := rootOf_length _ (fun x hx => hv.1 x (List.mem_of_mem_take hx))
    have hb := bridgeOf_le ls m h0 (by omega)
    have := checkC_ W (rootOf (ls.take m)) (rootOf ls) m n u _ hl hRl h0 hm (by omega) hu (by omega) (hg.upd hW (by simp)) (hf.upd hW (by simp))
    have ht := proves_cons ls m h0 (by omega)
    rw [hn] at ht
    rwa [ht] at this
  have HLZ : Hid (∀ W, Upd [] w W → Calls Tryd.prog 27 #[.int .i64 0, .int .i64 n, .agg ((rootOf (ls.take 0)).map U8).toArray, .agg ((rootOf ls).map U8).toArray, .slice none 0 0] W fun e w' => e = .returned (.bool true) ∧ Upd [] W w') := fun W hW => by
    have hl : (rootOf (ls.take 0)).length = 32 := rootOf_length _ (fun x hx => hv.1 x (List.mem_of_mem_take hx))
    have := checkC_zero W (rootOf (ls.take 0)) ((rootOf ls).map U8).toArray n _ [] hl (by omega) (RdH.nil W) (hg.upd hW (by simp)) (hf.upd hW (by simp))
    rw [List.take_zero, rootOf_nil] at this ⊢
    rwa [show (([] : List H8).length == 0 && sha256 [] == sha256 []) = true by simp] at this
  have HOLD : Hid (∀ (m : Nat), m ≤ n → ∃ B, (∀ W, (Instr.sliceAt 25 (.slice A n c) none (some (.int .i64 m)) none).run Tryd.prog W = .ok (.slice B m c) W) ∧ (rootOf (ls.take m)).length = 32 ∧ ∀ W, Upd [] w W → Calls Tryd.prog 18 #[.slice B m c] W fun e w' => e = .returned (.tuple #[.agg ((rootOf (ls.take m)).map U8).toArray, .bool true]) ∧ Upd [] W w') := fun m hm => by
    rw [e] at hv
    obtain ⟨B, hB, hvB⟩ := hv.cut2 0 m none (some (.int .i64 m)) (.inl ⟨rfl, rfl⟩) (.inr rfl) (by omega) hm
    simp only [Nat.sub_zero, List.drop_zero] at hB hvB
    exact ⟨B, hB, rootOf_length _ hvB.1, fun W hW => mroot_ W _ _ (hvB.upd0 hW) (by simp; omega) (hg.upd hW (by simp)) (hf.upd hW (by simp))⟩
  obtain ⟨R, hR⟩ : ∃ R, rootOf ls = R := ⟨_, rfl⟩
  rw [hR] at HRT hRl HLI HLC HLZ
  have hNl : (nodeH (List.replicate 32 0) (List.replicate 32 0)).length = 32 := nodeH_length _ _
  obtain ⟨N, hN⟩ : ∃ N, nodeH (List.replicate 32 0) (List.replicate 32 0) = N := ⟨_, rfl⟩
  have hNz : (N == List.replicate 32 0) = false := by rw [← hN]; exact node_zero
  rw [hN] at HNZ hNl
  have hq3 := fun W => eql_h32 N (List.replicate 32 0) hNl (by simp) W
  rw [← zrow_h, hNz] at hq3
  have hgd := guard_h32
  have hbz := built_hash
  have hsR := szrow hRl
  have hoR := sameZ hRl
  have haR := oneAll R
  have HEL : Hid (∀ (i : Nat) (hi : i < n), ∃ g p x, A = some ⟨g, p, none⟩ ∧ (∃ h : i < ls.length, ls[i] = x) ∧ w.rangeAt g (p + i * 32) (x.map U8)) := fun i hi => by
    rw [e] at hv
    obtain ⟨g, p, c', e', _, _, _⟩ := hv.at (by omega)
    injection e' with e1 e2 e3
    subst e1
    exact ⟨g, p, _, rfl, ⟨by omega, rfl⟩, hv.elem i (by omega)⟩
  have HNLE : Hid (n ≤ ls.length) := by show n ≤ ls.length; omega
  rw [e] at HRT ⊢
  obtain ⟨cN, hcN⟩ : ∃ c, (N.map U8).toArray = c := ⟨_, rfl⟩
  obtain ⟨cR, hcR⟩ : ∃ c, (R.map U8).toArray = c := ⟨_, rfl⟩
  obtain ⟨cz, hcz⟩ : ∃ c, zrow8 32 = c := ⟨_, rfl⟩
  have HZZ : Hid (∀ W, (zeroValue 27).run Tryd.prog W = .ok (.agg cz) W) := fun W => by rw [← hcz]; exact zero_h32 W
  rw [hcN] at HNZ hq3
  rw [hcR] at HRT HLI HLC HLZ hsR hoR haR
  have HCZ := Lib.hid hcz
  rw [hcz] at HNZ hq3 hbz hoR
  clear hv hg hf hn hR hN hNl hNz hcN hcR hcz hbig e hRl
  by_cases hi0 : ix < 0
  · have HBD : Hid (ix < 0 ∨ (n : Int) ≤ ix) := Or.inl hi0
    have di1 : decide (ix ≥ 0) = false := by simp; omega
    by_cases hf0 : fs < 0 ∨ (n : Int) < fs
    · by_cases hf1 : fs < 0
      · have HFB : Hid (fs < 0 ∨ (n : Int) < fs) := hf0
        have df1 : decide (fs ≥ 0) = false := by simp; omega
        clear hf0
        go_enter Tryd.func9, Tryd.ntmps9
        go_wp2_with (fail)
        with_reducible refine (HRT.out _ (Upd.refl [] w)).mono ?_
        rintro e w1 ⟨rfl, hU1⟩
        go_wp2_with (with_reducible refine arm_alloc (HZZ.out _) ?_)
        intro b7 w2 hb7 k7 hU2 hz2
        change w2.heap[b7]? = some (.cells cz 27 (0, 0)) at k7
        have hl7 : w.heap.size ≤ b7 := by have := hU1.size; omega
        go_wp2_with (with_reducible refine arm_store (by with_unfolding_all exact rfl) (by with_unfolding_all exact rfl) k7 hsR hoR haR ?_)
        intro w3 k73 hX3 hz3
        have hV3 := (hU1.trans hU2).trans' hX3 (fun i hm hi => by simp at hm; omega)
        clear hU1 hb7 k7 hU2 hz2 hX3 hz3 hl7
        go_wp2_with (first | (with_reducible refine arm_build0_g (by with_unfolding_all exact rfl) hbz ?_) | (with_reducible refine arm_build0 hbz ?_))
        with_reducible refine (HNZ.out _ hV3).mono ?_
        rintro e w4 ⟨rfl, hU4⟩
        have k74 := hU4.heap k73 (by simp)
        have hV4 := hV3.trans hU4
        clear k73 hV3 hU4
        go_wp2_with (first | (with_reducible refine arm_build0_g (by with_unfolding_all exact rfl) hbz ?_) | (with_reducible refine arm_build0 hbz ?_))
        with_reducible refine (HIB.out ⟨HNLE.out, HBD.out⟩ _).mono ?_
        rintro e w5 ⟨rfl, hU5⟩
        have k75 := hU5.heap k74 (by simp)
        have hV5 := hV4.trans hU5
        clear k74 hV4 hU5
        go_upto_region 7 with (fail)
        go_quiet (skip)
        rename Nat => nq
        have hV6 := hV5.drewN nq
        have k76 : (w5.drewN nq).heap[b7]? = some (.cells cR 27 (0, 0)) := k75
        clear k75 hV5
        obtain ⟨w6, hw6⟩ : ∃ W, w5.drewN nq = W := ⟨_, rfl⟩
        rw [hw6] at hV6 k76 ⊢
        clear hw6
        go_wp2_with (fail)
        with_reducible refine (HCB.out HFB.out _).mono ?_
        rintro e w7 ⟨rfl, hU7⟩
        go_wp2_with (fail)
        go_ret
        exact ⟨rfl, hV6.trans hU7⟩
      · have HFB : Hid (fs < 0 ∨ (n : Int) < fs) := hf0
        have df1 : decide (fs ≥ 0) = true := by simp; omega
        have df2 : decide (fs ≤ (n : Int)) = false := by simp; omega
        clear hf0
        go_enter Tryd.func9, Tryd.ntmps9
        go_wp2_with (fail)
        with_reducible refine (HRT.out _ (Upd.refl [] w)).mono ?_
        rintro e w1 ⟨rfl, hU1⟩
        go_wp2_with (with_reducible refine arm_alloc (HZZ.out _) ?_)
        intro b7 w2 hb7 k7 hU2 hz2
        change w2.heap[b7]? = some (.cells cz 27 (0, 0)) at k7
        have hl7 : w.heap.size ≤ b7 := by have := hU1.size; omega
        go_wp2_with (with_reducible refine arm_store (by with_unfolding_all exact rfl) (by with_unfolding_all exact rfl) k7 hsR hoR haR ?_)
        intro w3 k73 hX3 hz3
        have hV3 := (hU1.trans hU2).trans' hX3 (fun i hm hi => by simp at hm; omega)
        clear hU1 hb7 k7 hU2 hz2 hX3 hz3 hl7
        go_wp2_with (first | (with_reducible refine arm_build0_g (by with_unfolding_all exact rfl) hbz ?_) | (with_reducible refine arm_build0 hbz ?_))
        with_reducible refine (HNZ.out _ hV3).mono ?_
        rintro e w4 ⟨rfl, hU4⟩
        have k74 := hU4.heap k73 (by simp)
        have hV4 := hV3.trans hU4
        clear k73 hV3 hU4
        go_wp2_with (first | (with_reducible refine arm_build0_g (by with_unfolding_all exact rfl) hbz ?_) | (with_reducible refine arm_build0 hbz ?_))
        with_reducible refine (HIB.out ⟨HNLE.out, HBD.out⟩ _).mono ?_
        rintro e w5 ⟨rfl, hU5⟩
        have k75 := hU5.heap k74 (by simp)
        have hV5 := hV4.trans hU5
        clear k74 hV4 hU5
        go_upto_region 7 with (fail)
        go_quiet (skip)
        rename Nat => nq
        have hV6 := hV5.drewN nq
        have k76 : (w5.drewN nq).heap[b7]? = some (.cells cR 27 (0, 0)) := k75
        clear k75 hV5
        obtain ⟨w6, hw6⟩ : ∃ W, w5.drewN nq = W := ⟨_, rfl⟩
        rw [hw6] at hV6 k76 ⊢
        clear hw6
        go_wp2_with (fail)
        with_reducible refine (HCB.out HFB.out _).mono ?_
        rintro e w7 ⟨rfl, hU7⟩
        go_wp2_with (fail)
        go_ret
        exact ⟨rfl, hV6.trans hU7⟩
    · obtain ⟨m, rfl⟩ : ∃ m : Nat, fs = m := ⟨fs.toNat, by omega⟩
      have hmn : m ≤ n := by omega
      have df2 : decide ((m : Int) ≤ (n : Int)) = true := by simp; omega
      clear hf0
      by_cases hm0 : 0 < m
      · have df1 : decide ((m : Int) ≥ 0) = true := by simp
        obtain ⟨OB, hsli, hOl, hrold⟩ := HOLD.out m hmn
        have HSLI := Lib.hid hsli
        have HROLD := Lib.hid hrold
        have hsO := szrow hOl
        have hoO := sameZ hOl
        have haO := oneAll (rootOf (ls.take m))
        have HLC2 := Lib.hid (HLC.out m hm0 hmn)
        obtain ⟨cO, hcO⟩ : ∃ c, ((rootOf (ls.take m)).map U8).toArray = c := ⟨_, rfl⟩
        rw [hcO] at HROLD hsO hoO haO HLC2
        rw [HCZ.out] at hoO
        clear hsli hOl hrold hcO
        go_enter Tryd.func9, Tryd.ntmps9
        go_wp2_with (fail)
        with_reducible refine (HRT.out _ (Upd.refl [] w)).mono ?_
        rintro e w1 ⟨rfl, hU1⟩
        go_wp2_with (with_reducible refine arm_alloc (HZZ.out _) ?_)
        intro b7 w2 hb7 k7 hU2 hz2
        change w2.heap[b7]? = some (.cells cz 27 (0, 0)) at k7
        have hl7 : w.heap.size ≤ b7 := by have := hU1.size; omega
        go_wp2_with (with_reducible refine arm_store (by with_unfolding_all exact rfl) (by with_unfolding_all exact rfl) k7 hsR hoR haR ?_)
        intro w3 k73 hX3 hz3
        have hV3 := (hU1.trans hU2).trans' hX3 (fun i hm hi => by simp at hm; omega)
        clear hU1 hb7 k7 hU2 hz2 hX3 hz3 hl7
        go_wp2_with (first | (with_reducible refine arm_build0_g (by with_unfolding_all exact rfl) hbz ?_) | (with_reducible refine arm_build0 hbz ?_))
        with_reducible refine (HNZ.out _ hV3).mono ?_
        rintro e w4 ⟨rfl, hU4⟩
        have k74 := hU4.heap k73 (by simp)
        have hV4 := hV3.trans hU4
        clear k73 hV3 hU4
        go_wp2_with (first | (with_reducible refine arm_build0_g (by with_unfolding_all exact rfl) hbz ?_) | (with_reducible refine arm_build0 hbz ?_))
        with_reducible refine (HIB.out ⟨HNLE.out, HBD.out⟩ _).mono ?_
        rintro e w5 ⟨rfl, hU5⟩
        have k75 := hU5.heap k74 (by simp)
        have hV5 := hV4.trans hU5
        clear k74 hV4 hU5
        go_upto_region 7 with (fail)
        go_quiet (skip)
        rename Nat => nq
        have hV6 := hV5.drewN nq
        have k76 : (w5.drewN nq).heap[b7]? = some (.cells cR 27 (0, 0)) := k75
        clear k75 hV5
        obtain ⟨w6, hw6⟩ : ∃ W, w5.drewN nq = W := ⟨_, rfl⟩
        rw [hw6] at hV6 k76 ⊢
        clear hw6
        go_wp2_with (fail)
        with_reducible refine (HCN.out m hm0 hmn _ hV6).mono ?_
        rintro e w7 ⟨u7, rfl, hOu7, hU7⟩
        have hru7 := hOu7.rd
        clear hOu7
        have k77 := hU7.heap k76 (by simp)
        have hV7 := hV6.trans hU7
        clear k76 hV6 hU7
        go_wp2_with (with_reducible refine arm_slice (by with_unfolding_all exact rfl) (by with_unfolding_all exact rfl) (by with_unfolding_all exact rfl) (by with_unfolding_all exact rfl) HSLI.out ?_)
        with_reducible refine (HROLD.out _ hV7).mono ?_
        rintro e w8 ⟨rfl, hU8⟩
        have k78 := hU8.heap k77 (by simp)
        have hV8 := hV7.trans hU8
        have hru8 := hru7.upd0 hU8
        clear hru7
        clear k77 hV7 hU8
        go_wp2_with (with_reducible refine arm_alloc (HZZ.out _) ?_)
        intro b11 w9 hb11 k11 hU9 hz9
        change w9.heap[b11]? = some (.cells cz 27 (0, 0)) at k11
        have hl11 : w.heap.size ≤ b11 := by have := hV8.size; omega
        have hne : b7 ≠ b11 := by have := lt_of_heap k78; omega
        go_wp2_with (with_reducible refine arm_store (by with_unfolding_all exact rfl) (by with_unfolding_all exact rfl) k11 hsO hoO haO ?_)
        intro w10 k1110 hX10 hz10
        have k710 := hX10.heap (hU9.heap k78 (by simp)) (by simpa using hne)
        have hT10 := hU9.fresh hb11 hX10
        have hV10 := hV8.trans hT10
        have hru10 := hru8.upd0 hT10
        clear hru8
        clear hb11 k11 hU9 hz9 hX10 hz10 k78 hV8 hT10 hne
        go_wp2_with (first
          | (with_reducible refine arm_load_g (by with_unfolding_all exact rfl) (by with_unfolding_all exact rfl) k1110 Tryd.underlying27 (by with_unfolding_all exact rfl) hsO ?_)
          | (with_reducible refine arm_load_g (by with_unfolding_all exact rfl) (by with_unfolding_all exact rfl) k710 Tryd.underlying27 (by with_unfolding_all exact rfl) hsR ?_))
        with_reducible refine (HLC2.out _ _ hV10 hru10).mono ?_
        rintro e w11 ⟨rfl, hU11⟩
        go_wp2_with (fail)
        go_ret
        exact ⟨rfl, hV10.trans hU11⟩
      · obtain rfl : m = 0 := by omega
        have df1 : decide (((0 : Nat) : Int) ≥ 0) = true := by simp
        obtain ⟨OB, hsli, hOl, hrold⟩ := HOLD.out 0 (by omega)
        have HSLI := Lib.hid hsli
        have HROLD := Lib.hid hrold
        have hsO := szrow hOl
        have hoO := sameZ hOl
        have haO := oneAll (rootOf (ls.take 0))
        have HLZ2 := Lib.hid HLZ.out
        obtain ⟨cO, hcO⟩ : ∃ c, ((rootOf (ls.take 0)).map U8).toArray = c := ⟨_, rfl⟩
        rw [hcO] at HROLD hsO hoO haO HLZ2
        rw [HCZ.out] at hoO
        clear hsli hOl hrold hcO
        go_enter Tryd.func9, Tryd.ntmps9
        go_wp2_with (fail)
        with_reducible refine (HRT.out _ (Upd.refl [] w)).mono ?_
        rintro e w1 ⟨rfl, hU1⟩
        go_wp2_with (with_reducible refine arm_alloc (HZZ.out _) ?_)
        intro b7 w2 hb7 k7 hU2 hz2
        change w2.heap[b7]? = some (.cells cz 27 (0, 0)) at k7
        have hl7 : w.heap.size ≤ b7 := by have := hU1.size; omega
        go_wp2_with (with_reducible refine arm_store (by with_unfolding_all exact rfl) (by with_unfolding_all exact rfl) k7 hsR hoR haR ?_)
        intro w3 k73 hX3 hz3
        have hV3 := (hU1.trans hU2).trans' hX3 (fun i hm hi => by simp at hm; omega)
        clear hU1 hb7 k7 hU2 hz2 hX3 hz3 hl7
        go_wp2_with (first | (with_reducible refine arm_build0_g (by with_unfolding_all exact rfl) hbz ?_) | (with_reducible refine arm_build0 hbz ?_))
        with_reducible refine (HNZ.out _ hV3).mono ?_
        rintro e w4 ⟨rfl, hU4⟩
        have k74 := hU4.heap k73 (by simp)
        have hV4 := hV3.trans hU4
        clear k73 hV3 hU4
        go_wp2_with (first | (with_reducible refine arm_build0_g (by with_unfolding_all exact rfl) hbz ?_) | (with_reducible refine arm_build0 hbz ?_))
        with_reducible refine (HIB.out ⟨HNLE.out, HBD.out⟩ _).mono ?_
        rintro e w5 ⟨rfl, hU5⟩
        have k75 := hU5.heap k74 (by simp)
        have hV5 := hV4.trans hU5
        clear k74 hV4 hU5
        go_upto_region 7 with (fail)
        go_quiet (skip)
        rename Nat => nq
        have hV6 := hV5.drewN nq
        have k76 : (w5.drewN nq).heap[b7]? = some (.cells cR 27 (0, 0)) := k75
        clear k75 hV5
        obtain ⟨w6, hw6⟩ : ∃ W, w5.drewN nq = W := ⟨_, rfl⟩
        rw [hw6] at hV6 k76 ⊢
        clear hw6
        go_wp2_with (fail)
        with_reducible refine (HC0.out _).mono ?_
        rintro e w7 ⟨rfl, hU7⟩
        have k77 := hU7.heap k76 (by simp)
        have hV7 := hV6.trans hU7
        clear k76 hV6 hU7
        go_wp2_with (with_reducible refine arm_slice (by with_unfolding_all exact rfl) (by with_unfolding_all exact rfl) (by with_unfolding_all exact rfl) (by with_unfolding_all exact rfl) HSLI.out ?_)
        with_reducible refine (HROLD.out _ hV7).mono ?_
        rintro e w8 ⟨rfl, hU8⟩
        have k78 := hU8.heap k77 (by simp)
        have hV8 := hV7.trans hU8
        clear k77 hV7 hU8
        go_wp2_with (with_reducible refine arm_alloc (HZZ.out _) ?_)
        intro b11 w9 hb11 k11 hU9 hz9
        change w9.heap[b11]? = some (.cells cz 27 (0, 0)) at k11
        have hl11 : w.heap.size ≤ b11 := by have := hV8.size; omega
        have hne : b7 ≠ b11 := by have := lt_of_heap k78; omega
        go_wp2_with (with_reducible refine arm_store (by with_unfolding_all exact rfl) (by with_unfolding_all exact rfl) k11 hsO hoO haO ?_)
        intro w10 k1110 hX10 hz10
        have k710 := hX10.heap (hU9.heap k78 (by simp)) (by simpa using hne)
        have hT10 := hU9.fresh hb11 hX10
        have hV10 := hV8.trans hT10
        clear hb11 k11 hU9 hz9 hX10 hz10 k78 hV8 hT10 hne
        go_wp2_with (first
          | (with_reducible refine arm_load_g (by with_unfolding_all exact rfl) (by with_unfolding_all exact rfl) k1110 Tryd.underlying27 (by with_unfolding_all exact rfl) hsO ?_)
          | (with_reducible refine arm_load_g (by with_unfolding_all exact rfl) (by with_unfolding_all exact rfl) k710 Tryd.underlying27 (by with_unfolding_all exact rfl) hsR ?_))
        with_reducible refine (HLZ2.out _ hV10).mono ?_
        rintro e w11 ⟨rfl, hU11⟩
        go_wp2_with (fail)
        go_ret
        exact ⟨rfl, hV10.trans hU11⟩
  by_cases hi1 : (n : Int) ≤ ix
  · have HBD : Hid (ix < 0 ∨ (n : Int) ≤ ix) := Or.inr hi1
    have di1 : decide (ix ≥ 0) = true := by simp; omega
    have di2 : decide (ix < (n : Int)) = false := by simp; omega
    by_cases hf0 : fs < 0 ∨ (n : Int) < fs
    · by_cases hf1 : fs < 0
      · have HFB : Hid (fs < 0 ∨ (n : Int) < fs) := hf0
        have df1 : decide (fs ≥ 0) = false := by simp; omega
        clear hf0
        go_enter Tryd.func9, Tryd.ntmps9
        go_wp2_with (fail)
        with_reducible refine (HRT.out _ (Upd.refl [] w)).mono ?_
        rintro e w1 ⟨rfl, hU1⟩
        go_wp2_with (with_reducible refine arm_alloc (HZZ.out _) ?_)
        intro b7 w2 hb7 k7 hU2 hz2
        change w2.heap[b7]? = some (.cells cz 27 (0, 0)) at k7
        have hl7 : w.heap.size ≤ b7 := by have := hU1.size; omega
        go_wp2_with (with_reducible refine arm_store (by with_unfolding_all exact rfl) (by with_unfolding_all exact rfl) k7 hsR hoR haR ?_)
        intro w3 k73 hX3 hz3
        have hV3 := (hU1.trans hU2).trans' hX3 (fun i hm hi => by simp at hm; omega)
        clear hU1 hb7 k7 hU2 hz2 hX3 hz3 hl7
        go_wp2_with (first | (with_reducible refine arm_build0_g (by with_unfolding_all exact rfl) hbz ?_) | (with_reducible refine arm_build0 hbz ?_))
        with_reducible refine (HNZ.out _ hV3).mono ?_
        rintro e w4 ⟨rfl, hU4⟩
        have k74 := hU4.heap k73 (by simp)
        have hV4 := hV3.trans hU4
        clear k73 hV3 hU4
        go_wp2_with (first | (with_reducible refine arm_build0_g (by with_unfolding_all exact rfl) hbz ?_) | (with_reducible refine arm_build0 hbz ?_))
        with_reducible refine (HIB.out ⟨HNLE.out, HBD.out⟩ _).mono ?_
        rintro e w5 ⟨rfl, hU5⟩
        have k75 := hU5.heap k74 (by simp)
        have hV5 := hV4.trans hU5
        clear k74 hV4 hU5
        go_upto_region 7 with (fail)
        go_quiet (skip)
        rename Nat => nq
        have hV6 := hV5.drewN nq
        have k76 : (w5.drewN nq).heap[b7]? = some (.cells cR 27 (0, 0)) := k75
        clear k75 hV5
        obtain ⟨w6, hw6⟩ : ∃ W, w5.drewN nq = W := ⟨_, rfl⟩
        rw [hw6] at hV6 k76 ⊢
        clear hw6
        go_wp2_with (fail)
        with_reducible refine (HCB.out HFB.out _).mono ?_
        rintro e w7 ⟨rfl, hU7⟩
        go_wp2_with (fail)
        go_ret
        exact ⟨rfl, hV6.trans hU7⟩
      · have HFB : Hid (fs < 0 ∨ (n : Int) < fs) := hf0
        have df1 : decide (fs ≥ 0) = true := by simp; omega
        have df2 : decide (fs ≤ (n : Int)) = false := by simp; omega
        clear hf0
        go_enter Tryd.func9, Tryd.ntmps9
        go_wp2_with (fail)
        with_reducible refine (HRT.out _ (Upd.refl [] w)).mono ?_
        rintro e w1 ⟨rfl, hU1⟩
        go_wp2_with (with_reducible refine arm_alloc (HZZ.out _) ?_)
        intro b7 w2 hb7 k7 hU2 hz2
        change w2.heap[b7]? = some (.cells cz 27 (0, 0)) at k7
        have hl7 : w.heap.size ≤ b7 := by have := hU1.size; omega
        go_wp2_with (with_reducible refine arm_store (by with_unfolding_all exact rfl) (by with_unfolding_all exact rfl) k7 hsR hoR haR ?_)
        intro w3 k73 hX3 hz3
        have hV3 := (hU1.trans hU2).trans' hX3 (fun i hm hi => by simp at hm; omega)
        clear hU1 hb7 k7 hU2 hz2 hX3 hz3 hl7
        go_wp2_with (first | (with_reducible refine arm_build0_g (by with_unfolding_all exact rfl) hbz ?_) | (with_reducible refine arm_build0 hbz ?_))
        with_reducible refine (HNZ.out _ hV3).mono ?_
        rintro e w4 ⟨rfl, hU4⟩
        have k74 := hU4.heap k73 (by simp)
        have hV4 := hV3.trans hU4
        clear k73 hV3 hU4
        go_wp2_with (first | (with_reducible refine arm_build0_g (by with_unfolding_all exact rfl) hbz ?_) | (with_reducible refine arm_build0 hbz ?_))
        with_reducible refine (HIB.out ⟨HNLE.out, HBD.out⟩ _).mono ?_
        rintro e w5 ⟨rfl, hU5⟩
        have k75 := hU5.heap k74 (by simp)
        have hV5 := hV4.trans hU5
        clear k74 hV4 hU5
        go_upto_region 7 with (fail)
        go_quiet (skip)
        rename Nat => nq
        have hV6 := hV5.drewN nq
        have k76 : (w5.drewN nq).heap[b7]? = some (.cells cR 27 (0, 0)) := k75
        clear k75 hV5
        obtain ⟨w6, hw6⟩ : ∃ W, w5.drewN nq = W := ⟨_, rfl⟩
        rw [hw6] at hV6 k76 ⊢
        clear hw6
        go_wp2_with (fail)
        with_reducible refine (HCB.out HFB.out _).mono ?_
        rintro e w7 ⟨rfl, hU7⟩
        go_wp2_with (fail)
        go_ret
        exact ⟨rfl, hV6.trans hU7⟩
    · obtain ⟨m, rfl⟩ : ∃ m : Nat, fs = m := ⟨fs.toNat, by omega⟩
      have hmn : m ≤ n := by omega
      have df2 : decide ((m : Int) ≤ (n : Int)) = true := by simp; omega
      clear hf0
      by_cases hm0 : 0 < m
      · have df1 : decide ((m : Int) ≥ 0) = true := by simp
        obtain ⟨OB, hsli, hOl, hrold⟩ := HOLD.out m hmn
        have HSLI := Lib.hid hsli
        have HROLD := Lib.hid hrold
        have hsO := szrow hOl
        have hoO := sameZ hOl
        have haO := oneAll (rootOf (ls.take m))
        have HLC2 := Lib.hid (HLC.out m hm0 hmn)
        obtain ⟨cO, hcO⟩ : ∃ c, ((rootOf (ls.take m)).map U8).toArray = c := ⟨_, rfl⟩
        rw [hcO] at HROLD hsO hoO haO HLC2
        rw [HCZ.out] at hoO
        clear hsli hOl hrold hcO
        go_enter Tryd.func9, Tryd.ntmps9
        go_wp2_with (fail)
        with_reducible refine (HRT.out _ (Upd.refl [] w)).mono ?_
        rintro e w1 ⟨rfl, hU1⟩
        go_wp2_with (with_reducible refine arm_alloc (HZZ.out _) ?_)
        intro b7 w2 hb7 k7 hU2 hz2
        change w2.heap[b7]? = some (.cells cz 27 (0, 0)) at k7
        have hl7 : w.heap.size ≤ b7 := by have := hU1.size; omega
        go_wp2_with (with_reducible refine arm_store (by with_unfolding_all exact rfl) (by with_unfolding_all exact rfl) k7 hsR hoR haR ?_)
        intro w3 k73 hX3 hz3
        have hV3 := (hU1.trans hU2).trans' hX3 (fun i hm hi => by simp at hm; omega)
        clear hU1 hb7 k7 hU2 hz2 hX3 hz3 hl7
        go_wp2_with (first | (with_reducible refine arm_build0_g (by with_unfolding_all exact rfl) hbz ?_) | (with_reducible refine arm_build0 hbz ?_))
        with_reducible refine (HNZ.out _ hV3).mono ?_
        rintro e w4 ⟨rfl, hU4⟩
        have k74 := hU4.heap k73 (by simp)
        have hV4 := hV3.trans hU4
        clear k73 hV3 hU4
        go_wp2_with (first | (with_reducible refine arm_build0_g (by with_unfolding_all exact rfl) hbz ?_) | (with_reducible refine arm_build0 hbz ?_))
        with_reducible refine (HIB.out ⟨HNLE.out, HBD.out⟩ _).mono ?_
        rintro e w5 ⟨rfl, hU5⟩
        have k75 := hU5.heap k74 (by simp)
        have hV5 := hV4.trans hU5
        clear k74 hV4 hU5
        go_upto_region 7 with (fail)
        go_quiet (skip)
        rename Nat => nq
        have hV6 := hV5.drewN nq
        have k76 : (w5.drewN nq).heap[b7]? = some (.cells cR 27 (0, 0)) := k75
        clear k75 hV5
        obtain ⟨w6, hw6⟩ : ∃ W, w5.drewN nq = W := ⟨_, rfl⟩
        rw [hw6] at hV6 k76 ⊢
        clear hw6
        go_wp2_with (fail)
        with_reducible refine (HCN.out m hm0 hmn _ hV6).mono ?_
        rintro e w7 ⟨u7, rfl, hOu7, hU7⟩
        have hru7 := hOu7.rd
        clear hOu7
        have k77 := hU7.heap k76 (by simp)
        have hV7 := hV6.trans hU7
        clear k76 hV6 hU7
        go_wp2_with (with_reducible refine arm_slice (by with_unfolding_all exact rfl) (by with_unfolding_all exact rfl) (by with_unfolding_all exact rfl) (by with_unfolding_all exact rfl) HSLI.out ?_)
        with_reducible refine (HROLD.out _ hV7).mono ?_
        rintro e w8 ⟨rfl, hU8⟩
        have k78 := hU8.heap k77 (by simp)
        have hV8 := hV7.trans hU8
        have hru8 := hru7.upd0 hU8
        clear hru7
        clear k77 hV7 hU8
        go_wp2_with (with_reducible refine arm_alloc (HZZ.out _) ?_)
        intro b11 w9 hb11 k11 hU9 hz9
        change w9.heap[b11]? = some (.cells cz 27 (0, 0)) at k11
        have hl11 : w.heap.size ≤ b11 := by have := hV8.size; omega
        have hne : b7 ≠ b11 := by have := lt_of_heap k78; omega
        go_wp2_with (with_reducible refine arm_store (by with_unfolding_all exact rfl) (by with_unfolding_all exact rfl) k11 hsO hoO haO ?_)
        intro w10 k1110 hX10 hz10
        have k710 := hX10.heap (hU9.heap k78 (by simp)) (by simpa using hne)
        have hT10 := hU9.fresh hb11 hX10
        have hV10 := hV8.trans hT10
        have hru10 := hru8.upd0 hT10
        clear hru8
        clear hb11 k11 hU9 hz9 hX10 hz10 k78 hV8 hT10 hne
        go_wp2_with (first
          | (with_reducible refine arm_load_g (by with_unfolding_all exact rfl) (by with_unfolding_all exact rfl) k1110 Tryd.underlying27 (by with_unfolding_all exact rfl) hsO ?_)
          | (with_reducible refine arm_load_g (by with_unfolding_all exact rfl) (by with_unfolding_all exact rfl) k710 Tryd.underlying27 (by with_unfolding_all exact rfl) hsR ?_))
        with_reducible refine (HLC2.out _ _ hV10 hru10).mono ?_
        rintro e w11 ⟨rfl, hU11⟩
        go_wp2_with (fail)
        go_ret
        exact ⟨rfl, hV10.trans hU11⟩
      · obtain rfl : m = 0 := by omega
        have df1 : decide (((0 : Nat) : Int) ≥ 0) = true := by simp
        obtain ⟨OB, hsli, hOl, hrold⟩ := HOLD.out 0 (by omega)
        have HSLI := Lib.hid hsli
        have HROLD := Lib.hid hrold
        have hsO := szrow hOl
        have hoO := sameZ hOl
        have haO := oneAll (rootOf (ls.take 0))
        have HLZ2 := Lib.hid HLZ.out
        obtain ⟨cO, hcO⟩ : ∃ c, ((rootOf (ls.take 0)).map U8).toArray = c := ⟨_, rfl⟩
        rw [hcO] at HROLD hsO hoO haO HLZ2
        rw [HCZ.out] at hoO
        clear hsli hOl hrold hcO
        go_enter Tryd.func9, Tryd.ntmps9
        go_wp2_with (fail)
        with_reducible refine (HRT.out _ (Upd.refl [] w)).mono ?_
        rintro e w1 ⟨rfl, hU1⟩
        go_wp2_with (with_reducible refine arm_alloc (HZZ.out _) ?_)
        intro b7 w2 hb7 k7 hU2 hz2
        change w2.heap[b7]? = some (.cells cz 27 (0, 0)) at k7
        have hl7 : w.heap.size ≤ b7 := by have := hU1.size; omega
        go_wp2_with (with_reducible refine arm_store (by with_unfolding_all exact rfl) (by with_unfolding_all exact rfl) k7 hsR hoR haR ?_)
        intro w3 k73 hX3 hz3
        have hV3 := (hU1.trans hU2).trans' hX3 (fun i hm hi => by simp at hm; omega)
        clear hU1 hb7 k7 hU2 hz2 hX3 hz3 hl7
        go_wp2_with (first | (with_reducible refine arm_build0_g (by with_unfolding_all exact rfl) hbz ?_) | (with_reducible refine arm_build0 hbz ?_))
        with_reducible refine (HNZ.out _ hV3).mono ?_
        rintro e w4 ⟨rfl, hU4⟩
        have k74 := hU4.heap k73 (by simp)
        have hV4 := hV3.trans hU4
        clear k73 hV3 hU4
        go_wp2_with (first | (with_reducible refine arm_build0_g (by with_unfolding_all exact rfl) hbz ?_) | (with_reducible refine arm_build0 hbz ?_))
        with_reducible refine (HIB.out ⟨HNLE.out, HBD.out⟩ _).mono ?_
        rintro e w5 ⟨rfl, hU5⟩
        have k75 := hU5.heap k74 (by simp)
        have hV5 := hV4.trans hU5
        clear k74 hV4 hU5
        go_upto_region 7 with (fail)
        go_quiet (skip)
        rename Nat => nq
        have hV6 := hV5.drewN nq
        have k76 : (w5.drewN nq).heap[b7]? = some (.cells cR 27 (0, 0)) := k75
        clear k75 hV5
        obtain ⟨w6, hw6⟩ : ∃ W, w5.drewN nq = W := ⟨_, rfl⟩
        rw [hw6] at hV6 k76 ⊢
        clear hw6
        go_wp2_with (fail)
        with_reducible refine (HC0.out _).mono ?_
        rintro e w7 ⟨rfl, hU7⟩
        have k77 := hU7.heap k76 (by simp)
        have hV7 := hV6.trans hU7
        clear k76 hV6 hU7
        go_wp2_with (with_reducible refine arm_slice (by with_unfolding_all exact rfl) (by with_unfolding_all exact rfl) (by with_unfolding_all exact rfl) (by with_unfolding_all exact rfl) HSLI.out ?_)
        with_reducible refine (HROLD.out _ hV7).mono ?_
        rintro e w8 ⟨rfl, hU8⟩
        have k78 := hU8.heap k77 (by simp)
        have hV8 := hV7.trans hU8
        clear k77 hV7 hU8
        go_wp2_with (with_reducible refine arm_alloc (HZZ.out _) ?_)
        intro b11 w9 hb11 k11 hU9 hz9
        change w9.heap[b11]? = some (.cells cz 27 (0, 0)) at k11
        have hl11 : w.heap.size ≤ b11 := by have := hV8.size; omega
        have hne : b7 ≠ b11 := by have := lt_of_heap k78; omega
        go_wp2_with (with_reducible refine arm_store (by with_unfolding_all exact rfl) (by with_unfolding_all exact rfl) k11 hsO hoO haO ?_)
        intro w10 k1110 hX10 hz10
        have k710 := hX10.heap (hU9.heap k78 (by simp)) (by simpa using hne)
        have hT10 := hU9.fresh hb11 hX10
        have hV10 := hV8.trans hT10
        clear hb11 k11 hU9 hz9 hX10 hz10 k78 hV8 hT10 hne
        go_wp2_with (first
          | (with_reducible refine arm_load_g (by with_unfolding_all exact rfl) (by with_unfolding_all exact rfl) k1110 Tryd.underlying27 (by with_unfolding_all exact rfl) hsO ?_)
          | (with_reducible refine arm_load_g (by with_unfolding_all exact rfl) (by with_unfolding_all exact rfl) k710 Tryd.underlying27 (by with_unfolding_all exact rfl) hsR ?_))
        with_reducible refine (HLZ2.out _ hV10).mono ?_
        rintro e w11 ⟨rfl, hU11⟩
        go_wp2_with (fail)
        go_ret
        exact ⟨rfl, hV10.trans hU11⟩
  obtain ⟨i, rfl⟩ : ∃ i : Nat, ix = i := ⟨ix.toNat, by omega⟩
  have hi : i < n := by omega
  have di2 : decide ((i : Int) < (n : Int)) = true := by simp; omega
  obtain ⟨g0, p0, x, rfl, hxe, hel⟩ := HEL.out i hi
  obtain ⟨hxl, hci⟩ := HLI.out i hi x hxe
  have hsx := szlist hxl
  obtain ⟨lx, hlx⟩ : ∃ l, x.map U8 = l := ⟨_, rfl⟩
  rw [hlx] at hel hci hsx
  have HELX := Lib.hid hel
  have HCI := Lib.hid hci
  clear hxe hel hci hxl hlx hi0 hi1
  by_cases hf0 : fs < 0 ∨ (n : Int) < fs
  · by_cases hf1 : fs < 0
    · have HFB : Hid (fs < 0 ∨ (n : Int) < fs) := hf0
      have df1 : decide (fs ≥ 0) = false := by simp; omega
      clear hf0
      go_enter Tryd.func9, Tryd.ntmps9
      go_wp2_with (fail)
      with_reducible refine (HRT.out _ (Upd.refl [] w)).mono ?_
      rintro e w1 ⟨rfl, hU1⟩
      go_wp2_with (with_reducible refine arm_alloc (HZZ.out _) ?_)
      intro b7 w2 hb7 k7 hU2 hz2
      change w2.heap[b7]? = some (.cells cz 27 (0, 0)) at k7
      have hl7 : w.heap.size ≤ b7 := by have := hU1.size; omega
      go_wp2_with (with_reducible refine arm_store (by with_unfolding_all exact rfl) (by with_unfolding_all exact rfl) k7 hsR hoR haR ?_)
      intro w3 k73 hX3 hz3
      have hV3 := (hU1.trans hU2).trans' hX3 (fun i hm hi => by simp at hm; omega)
      clear hU1 hb7 k7 hU2 hz2 hX3 hz3 hl7
      go_wp2_with (first | (with_reducible refine arm_build0_g (by with_unfolding_all exact rfl) hbz ?_) | (with_reducible refine arm_build0 hbz ?_))
      with_reducible refine (HNZ.out _ hV3).mono ?_
      rintro e w4 ⟨rfl, hU4⟩
      have k74 := hU4.heap k73 (by simp)
      have hV4 := hV3.trans hU4
      clear k73 hV3 hU4
      go_wp2_with (first | (with_reducible refine arm_build0_g (by with_unfolding_all exact rfl) hbz ?_) | (with_reducible refine arm_build0 hbz ?_))
      with_reducible refine (HIN.out i hi _ hV4).mono ?_
      rintro e w5 ⟨u, rfl, hOu, hU5⟩
      have k75 := hU5.heap k74 (by simp)
      have hV5 := hV4.trans hU5
      have hru := hOu.rd
      have HCK : Hid (∀ W, Upd [] w5 W → Calls Tryd.prog 21 #[.agg lx.toArray, .int .i64 i, .int .i64 n, u, .agg cR] W fun e w' => e = .returned (.bool true) ∧ Upd [] W w') := fun W hW => HCI.out W u (hV5.trans hW) (hru.upd0 hW)
      have HQ7 : Hid (∀ W, Upd [] w5 W → ∃ t fr, W.heap[b7]? = some (.cells cR t fr)) := fun W hW => ⟨_, _, hW.heap k75 (by simp)⟩
      have HE : Hid (∀ W, Upd [] w5 W → W.rangeAt g0 (p0 + i * 32) lx) := fun W hW j v hj => hW.cell (hV5.cell (HELX.out j v hj) (by simp)) (by simp)
      clear k74 hV4 hU5 hOu hru
      go_upto_region 7 with (fail)
      refine wp_region_quiet_all (Upd [] w5) (by kernel_rfl) (by kernel_rfl) (Upd.refl _ _).drew ?_
      repeat (first
        | (refine wpQuiet_val rfl (quiet_load_row 27 _ rfl b7 rfl _ HQ7.out Tryd.underlying27 rfl hsR) ?_)
        | (refine wpQuiet_val rfl (quiet_load_mid 27 _ rfl g0 (p0 + i * 32) rfl _ HE.out Tryd.underlying27 rfl hsx) ?_)
        | (refine wpQuiet_step (fun K hK => ?_)
           go_simp
           first
             | (refine hK _ ?_; clear hK K)
             | ((with_reducible refine ⟨_, fun w2 hw2 => (HCK.out w2 hw2).mono (fun e w' h => ⟨h.1, hw2.trans h.2⟩), hK _ ?_⟩); clear hK K)
             | (refine ⟨_, fun _ _ => rfl, hK _ ?_⟩; clear hK K)))
      refine wpQuiet_nil ?_
      intro w6 hU6
      have k76 := hU6.heap k75 (by simp)
      have hV6 := hV5.trans hU6
      clear k75 hV5 hU6
      go_wp2_with (fail)
      with_reducible refine (HCB.out HFB.out _).mono ?_
      rintro e w7 ⟨rfl, hU7⟩
      go_wp2_with (fail)
      go_ret
      exact ⟨rfl, hV6.trans hU7⟩
    · have HFB : Hid (fs < 0 ∨ (n : Int) < fs) := hf0
      have df1 : decide (fs ≥ 0) = true := by simp; omega
      have df2 : decide (fs ≤ (n : Int)) = false := by simp; omega
      clear hf0
      go_enter Tryd.func9, Tryd.ntmps9
      go_wp2_with (fail)
      with_reducible refine (HRT.out _ (Upd.refl [] w)).mono ?_
      rintro e w1 ⟨rfl, hU1⟩
      go_wp2_with (with_reducible refine arm_alloc (HZZ.out _) ?_)
      intro b7 w2 hb7 k7 hU2 hz2
      change w2.heap[b7]? = some (.cells cz 27 (0, 0)) at k7
      have hl7 : w.heap.size ≤ b7 := by have := hU1.size; omega
      go_wp2_with (with_reducible refine arm_store (by with_unfolding_all exact rfl) (by with_unfolding_all exact rfl) k7 hsR hoR haR ?_)
      intro w3 k73 hX3 hz3
      have hV3 := (hU1.trans hU2).trans' hX3 (fun i hm hi => by simp at hm; omega)
      clear hU1 hb7 k7 hU2 hz2 hX3 hz3 hl7
      go_wp2_with (first | (with_reducible refine arm_build0_g (by with_unfolding_all exact rfl) hbz ?_) | (with_reducible refine arm_build0 hbz ?_))
      with_reducible refine (HNZ.out _ hV3).mono ?_
      rintro e w4 ⟨rfl, hU4⟩
      have k74 := hU4.heap k73 (by simp)
      have hV4 := hV3.trans hU4
      clear k73 hV3 hU4
      go_wp2_with (first | (with_reducible refine arm_build0_g (by with_unfolding_all exact rfl) hbz ?_) | (with_reducible refine arm_build0 hbz ?_))
      with_reducible refine (HIN.out i hi _ hV4).mono ?_
      rintro e w5 ⟨u, rfl, hOu, hU5⟩
      have k75 := hU5.heap k74 (by simp)
      have hV5 := hV4.trans hU5
      have hru := hOu.rd
      have HCK : Hid (∀ W, Upd [] w5 W → Calls Tryd.prog 21 #[.agg lx.toArray, .int .i64 i, .int .i64 n, u, .agg cR] W fun e w' => e = .returned (.bool true) ∧ Upd [] W w') := fun W hW => HCI.out W u (hV5.trans hW) (hru.upd0 hW)
      have HQ7 : Hid (∀ W, Upd [] w5 W → ∃ t fr, W.heap[b7]? = some (.cells cR t fr)) := fun W hW => ⟨_, _, hW.heap k75 (by simp)⟩
      have HE : Hid (∀ W, Upd [] w5 W → W.rangeAt g0 (p0 + i * 32) lx) := fun W hW j v hj => hW.cell (hV5.cell (HELX.out j v hj) (by simp)) (by simp)
      clear k74 hV4 hU5 hOu hru
      go_upto_region 7 with (fail)
      refine wp_region_quiet_all (Upd [] w5) (by kernel_rfl) (by kernel_rfl) (Upd.refl _ _).drew ?_
      repeat (first
        | (refine wpQuiet_val rfl (quiet_load_row 27 _ rfl b7 rfl _ HQ7.out Tryd.underlying27 rfl hsR) ?_)
        | (refine wpQuiet_val rfl (quiet_load_mid 27 _ rfl g0 (p0 + i * 32) rfl _ HE.out Tryd.underlying27 rfl hsx) ?_)
        | (refine wpQuiet_step (fun K hK => ?_)
           go_simp
           first
             | (refine hK _ ?_; clear hK K)
             | ((with_reducible refine ⟨_, fun w2 hw2 => (HCK.out w2 hw2).mono (fun e w' h => ⟨h.1, hw2.trans h.2⟩), hK _ ?_⟩); clear hK K)
             | (refine ⟨_, fun _ _ => rfl, hK _ ?_⟩; clear hK K)))
      refine wpQuiet_nil ?_
      intro w6 hU6
      have k76 := hU6.heap k75 (by simp)
      have hV6 := hV5.trans hU6
      clear k75 hV5 hU6
      go_wp2_with (fail)
      with_reducible refine (HCB.out HFB.out _).mono ?_
      rintro e w7 ⟨rfl, hU7⟩
      go_wp2_with (fail)
      go_ret
      exact ⟨rfl, hV6.trans hU7⟩
  · obtain ⟨m, rfl⟩ : ∃ m : Nat, fs = m := ⟨fs.toNat, by omega⟩
    have hmn : m ≤ n := by omega
    have df2 : decide ((m : Int) ≤ (n : Int)) = true := by simp; omega
    clear hf0
    by_cases hm0 : 0 < m
    · have df1 : decide ((m : Int) ≥ 0) = true := by simp
      obtain ⟨OB, hsli, hOl, hrold⟩ := HOLD.out m hmn
      have HSLI := Lib.hid hsli
      have HROLD := Lib.hid hrold
      have hsO := szrow hOl
      have hoO := sameZ hOl
      have haO := oneAll (rootOf (ls.take m))
      have HLC2 := Lib.hid (HLC.out m hm0 hmn)
      obtain ⟨cO, hcO⟩ : ∃ c, ((rootOf (ls.take m)).map U8).toArray = c := ⟨_, rfl⟩
      rw [hcO] at HROLD hsO hoO haO HLC2
      rw [HCZ.out] at hoO
      clear hsli hOl hrold hcO
      go_enter Tryd.func9, Tryd.ntmps9
      go_wp2_with (fail)
      with_reducible refine (HRT.out _ (Upd.refl [] w)).mono ?_
      rintro e w1 ⟨rfl, hU1⟩
      go_wp2_with (with_reducible refine arm_alloc (HZZ.out _) ?_)
      intro b7 w2 hb7 k7 hU2 hz2
      change w2.heap[b7]? = some (.cells cz 27 (0, 0)) at k7
      have hl7 : w.heap.size ≤ b7 := by have := hU1.size; omega
      go_wp2_with (with_reducible refine arm_store (by with_unfolding_all exact rfl) (by with_unfolding_all exact rfl) k7 hsR hoR haR ?_)
      intro w3 k73 hX3 hz3
      have hV3 := (hU1.trans hU2).trans' hX3 (fun i hm hi => by simp at hm; omega)
      clear hU1 hb7 k7 hU2 hz2 hX3 hz3 hl7
      go_wp2_with (first | (with_reducible refine arm_build0_g (by with_unfolding_all exact rfl) hbz ?_) | (with_reducible refine arm_build0 hbz ?_))
      with_reducible refine (HNZ.out _ hV3).mono ?_
      rintro e w4 ⟨rfl, hU4⟩
      have k74 := hU4.heap k73 (by simp)
      have hV4 := hV3.trans hU4
      clear k73 hV3 hU4
      go_wp2_with (first | (with_reducible refine arm_build0_g (by with_unfolding_all exact rfl) hbz ?_) | (with_reducible refine arm_build0 hbz ?_))
      with_reducible refine (HIN.out i hi _ hV4).mono ?_
      rintro e w5 ⟨u, rfl, hOu, hU5⟩
      have k75 := hU5.heap k74 (by simp)
      have hV5 := hV4.trans hU5
      have hru := hOu.rd
      have HCK : Hid (∀ W, Upd [] w5 W → Calls Tryd.prog 21 #[.agg lx.toArray, .int .i64 i, .int .i64 n, u, .agg cR] W fun e w' => e = .returned (.bool true) ∧ Upd [] W w') := fun W hW => HCI.out W u (hV5.trans hW) (hru.upd0 hW)
      have HQ7 : Hid (∀ W, Upd [] w5 W → ∃ t fr, W.heap[b7]? = some (.cells cR t fr)) := fun W hW => ⟨_, _, hW.heap k75 (by simp)⟩
      have HE : Hid (∀ W, Upd [] w5 W → W.rangeAt g0 (p0 + i * 32) lx) := fun W hW j v hj => hW.cell (hV5.cell (HELX.out j v hj) (by simp)) (by simp)
      clear k74 hV4 hU5 hOu hru
      go_upto_region 7 with (fail)
      refine wp_region_quiet_all (Upd [] w5) (by kernel_rfl) (by kernel_rfl) (Upd.refl _ _).drew ?_
      repeat (first
        | (refine wpQuiet_val rfl (quiet_load_row 27 _ rfl b7 rfl _ HQ7.out Tryd.underlying27 rfl hsR) ?_)
        | (refine wpQuiet_val rfl (quiet_load_mid 27 _ rfl g0 (p0 + i * 32) rfl _ HE.out Tryd.underlying27 rfl hsx) ?_)
        | (refine wpQuiet_step (fun K hK => ?_)
           go_simp
           first
             | (refine hK _ ?_; clear hK K)
             | ((with_reducible refine ⟨_, fun w2 hw2 => (HCK.out w2 hw2).mono (fun e w' h => ⟨h.1, hw2.trans h.2⟩), hK _ ?_⟩); clear hK K)
             | (refine ⟨_, fun _ _ => rfl, hK _ ?_⟩; clear hK K)))
      refine wpQuiet_nil ?_
      intro w6 hU6
      have k76 := hU6.heap k75 (by simp)
      have hV6 := hV5.trans hU6
      clear k75 hV5 hU6
      go_wp2_with (fail)
      with_reducible refine (HCN.out m hm0 hmn _ hV6).mono ?_
      rintro e w7 ⟨u7, rfl, hOu7, hU7⟩
      have hru7 := hOu7.rd
      clear hOu7
      have k77 := hU7.heap k76 (by simp)
      have hV7 := hV6.trans hU7
      clear k76 hV6 hU7
      go_wp2_with (with_reducible refine arm_slice (by with_unfolding_all exact rfl) (by with_unfolding_all exact rfl) (by with_unfolding_all exact rfl) (by with_unfolding_all exact rfl) HSLI.out ?_)
      with_reducible refine (HROLD.out _ hV7).mono ?_
      rintro e w8 ⟨rfl, hU8⟩
      have k78 := hU8.heap k77 (by simp)
      have hV8 := hV7.trans hU8
      have hru8 := hru7.upd0 hU8
      clear hru7
      clear k77 hV7 hU8
      go_wp2_with (with_reducible refine arm_alloc (HZZ.out _) ?_)
      intro b11 w9 hb11 k11 hU9 hz9
      change w9.heap[b11]? = some (.cells cz 27 (0, 0)) at k11
      have hl11 : w.heap.size ≤ b11 := by have := hV8.size; omega
      have hne : b7 ≠ b11 := by have := lt_of_heap k78; omega
      go_wp2_with (with_reducible refine arm_store (by with_unfolding_all exact rfl) (by with_unfolding_all exact rfl) k11 hsO hoO haO ?_)
      intro w10 k1110 hX10 hz10
      have k710 := hX10.heap (hU9.heap k78 (by simp)) (by simpa using hne)
      have hT10 := hU9.fresh hb11 hX10
      have hV10 := hV8.trans hT10
      have hru10 := hru8.upd0 hT10
      clear hru8
      clear hb11 k11 hU9 hz9 hX10 hz10 k78 hV8 hT10 hne
      go_wp2_with (first
        | (with_reducible refine arm_load_g (by with_unfolding_all exact rfl) (by with_unfolding_all exact rfl) k1110 Tryd.underlying27 (by with_unfolding_all exact rfl) hsO ?_)
        | (with_reducible refine arm_load_g (by with_unfolding_all exact rfl) (by with_unfolding_all exact rfl) k710 Tryd.underlying27 (by with_unfolding_all exact rfl) hsR ?_))
      with_reducible refine (HLC2.out _ _ hV10 hru10).mono ?_
      rintro e w11 ⟨rfl, hU11⟩
      go_wp2_with (fail)
      go_ret
      exact ⟨rfl, hV10.trans hU11⟩
    · obtain rfl : m = 0 := by omega
      have df1 : decide (((0 : Nat) : Int) ≥ 0) = true := by simp
      obtain ⟨OB, hsli, hOl, hrold⟩ := HOLD.out 0 (by omega)
      have HSLI := Lib.hid hsli
      have HROLD := Lib.hid hrold
      have hsO := szrow hOl
      have hoO := sameZ hOl
      have haO := oneAll (rootOf (ls.take 0))
      have HLZ2 := Lib.hid HLZ.out
      obtain ⟨cO, hcO⟩ : ∃ c, ((rootOf (ls.take 0)).map U8).toArray = c := ⟨_, rfl⟩
      rw [hcO] at HROLD hsO hoO haO HLZ2
      rw [HCZ.out] at hoO
      clear hsli hOl hrold hcO
      go_enter Tryd.func9, Tryd.ntmps9
      go_wp2_with (fail)
      with_reducible refine (HRT.out _ (Upd.refl [] w)).mono ?_
      rintro e w1 ⟨rfl, hU1⟩
      go_wp2_with (with_reducible refine arm_alloc (HZZ.out _) ?_)
      intro b7 w2 hb7 k7 hU2 hz2
      change w2.heap[b7]? = some (.cells cz 27 (0, 0)) at k7
      have hl7 : w.heap.size ≤ b7 := by have := hU1.size; omega
      go_wp2_with (with_reducible refine arm_store (by with_unfolding_all exact rfl) (by with_unfolding_all exact rfl) k7 hsR hoR haR ?_)
      intro w3 k73 hX3 hz3
      have hV3 := (hU1.trans hU2).trans' hX3 (fun i hm hi => by simp at hm; omega)
      clear hU1 hb7 k7 hU2 hz2 hX3 hz3 hl7
      go_wp2_with (first | (with_reducible refine arm_build0_g (by with_unfolding_all exact rfl) hbz ?_) | (with_reducible refine arm_build0 hbz ?_))
      with_reducible refine (HNZ.out _ hV3).mono ?_
      rintro e w4 ⟨rfl, hU4⟩
      have k74 := hU4.heap k73 (by simp)
      have hV4 := hV3.trans hU4
      clear k73 hV3 hU4
      go_wp2_with (first | (with_reducible refine arm_build0_g (by with_unfolding_all exact rfl) hbz ?_) | (with_reducible refine arm_build0 hbz ?_))
      with_reducible refine (HIN.out i hi _ hV4).mono ?_
      rintro e w5 ⟨u, rfl, hOu, hU5⟩
      have k75 := hU5.heap k74 (by simp)
      have hV5 := hV4.trans hU5
      have hru := hOu.rd
      have HCK : Hid (∀ W, Upd [] w5 W → Calls Tryd.prog 21 #[.agg lx.toArray, .int .i64 i, .int .i64 n, u, .agg cR] W fun e w' => e = .returned (.bool true) ∧ Upd [] W w') := fun W hW => HCI.out W u (hV5.trans hW) (hru.upd0 hW)
      have HQ7 : Hid (∀ W, Upd [] w5 W → ∃ t fr, W.heap[b7]? = some (.cells cR t fr)) := fun W hW => ⟨_, _, hW.heap k75 (by simp)⟩
      have HE : Hid (∀ W, Upd [] w5 W → W.rangeAt g0 (p0 + i * 32) lx) := fun W hW j v hj => hW.cell (hV5.cell (HELX.out j v hj) (by simp)) (by simp)
      clear k74 hV4 hU5 hOu hru
      go_upto_region 7 with (fail)
      refine wp_region_quiet_all (Upd [] w5) (by kernel_rfl) (by kernel_rfl) (Upd.refl _ _).drew ?_
      repeat (first
        | (refine wpQuiet_val rfl (quiet_load_row 27 _ rfl b7 rfl _ HQ7.out Tryd.underlying27 rfl hsR) ?_)
        | (refine wpQuiet_val rfl (quiet_load_mid 27 _ rfl g0 (p0 + i * 32) rfl _ HE.out Tryd.underlying27 rfl hsx) ?_)
        | (refine wpQuiet_step (fun K hK => ?_)
           go_simp
           first
             | (refine hK _ ?_; clear hK K)
             | ((with_reducible refine ⟨_, fun w2 hw2 => (HCK.out w2 hw2).mono (fun e w' h => ⟨h.1, hw2.trans h.2⟩), hK _ ?_⟩); clear hK K)
             | (refine ⟨_, fun _ _ => rfl, hK _ ?_⟩; clear hK K)))
      refine wpQuiet_nil ?_
      intro w6 hU6
      have k76 := hU6.heap k75 (by simp)
      have hV6 := hV5.trans hU6
      clear k75 hV5 hU6
      go_wp2_with (fail)
      with_reducible refine (HC0.out _).mono ?_
      rintro e w7 ⟨rfl, hU7⟩
      have k77 := hU7.heap k76 (by simp)
      have hV7 := hV6.trans hU7
      clear k76 hV6 hU7
      go_wp2_with (with_reducible refine arm_slice (by with_unfolding_all exact rfl) (by with_unfolding_all exact rfl) (by with_unfolding_all exact rfl) (by with_unfolding_all exact rfl) HSLI.out ?_)
      with_reducible refine (HROLD.out _ hV7).mono ?_
      rintro e w8 ⟨rfl, hU8⟩
      have k78 := hU8.heap k77 (by simp)
      have hV8 := hV7.trans hU8
      clear k77 hV7 hU8
      go_wp2_with (with_reducible refine arm_alloc (HZZ.out _) ?_)
      intro b11 w9 hb11 k11 hU9 hz9
      change w9.heap[b11]? = some (.cells cz 27 (0, 0)) at k11
      have hl11 : w.heap.size ≤ b11 := by have := hV8.size; omega
      have hne : b7 ≠ b11 := by have := lt_of_heap k78; omega
      go_wp2_with (with_reducible refine arm_store (by with_unfolding_all exact rfl) (by with_unfolding_all exact rfl) k11 hsO hoO haO ?_)
      intro w10 k1110 hX10 hz10
      have k710 := hX10.heap (hU9.heap k78 (by simp)) (by simpa using hne)
      have hT10 := hU9.fresh hb11 hX10
      have hV10 := hV8.trans hT10
      clear hb11 k11 hU9 hz9 hX10 hz10 k78 hV8 hT10 hne
      go_wp2_with (first
        | (with_reducible refine arm_load_g (by with_unfolding_all exact rfl) (by with_unfolding_all exact rfl) k1110 Tryd.underlying27 (by with_unfolding_all exact rfl) hsO ?_)
        | (with_reducible refine arm_load_g (by with_unfolding_all exact rfl) (by with_unfolding_all exact rfl) k710 Tryd.underlying27 (by with_unfolding_all exact rfl) hsR ?_))
      with_reducible refine (HLZ2.out _ hV10).mono ?_
      rintro e w11 ⟨rfl, hU11⟩
      go_wp2_with (fail)
      go_ret
      exact ⟨rfl, hV10.trans hU11⟩
end Go.Proofs.YtdfoffheolbokaaDoor
