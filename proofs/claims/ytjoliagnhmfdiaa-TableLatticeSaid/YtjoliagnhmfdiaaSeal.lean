/-
  Seals: compared, the greater of two, made clean.
-/
import Derived.Test.YtjoliagnhmfdiaaGreat
import Derived.Test.YtjoliagnhmfdiaaBuild2
namespace Go.Proofs.Ytjoliagnhmfdiaa
open Go Go.RowKit Go.Proofs
def sealC (b : Bool) (s : List (BitVec 8)) : List Value := .bool b :: s.map U8
def cmpS (a : Bool) (s : List (BitVec 8)) (b : Bool) (t : List (BitVec 8)) : Int := if a && !b then 1 else if !a && b then -1 else cmpB s t
theorem size_seal : (Try.prog.info? 46).map (·.size) = some 65 := by kernel_rfl
def zseal : Array Value := #[Value.bool false] ++ zrow8 64
theorem zero_seal (w : World) : (zeroValue 46).run Try.prog w = .ok (.agg zseal) w := by kernel_rfl
theorem sealC_length {i : Bool} {v : List (BitVec 8)} (h : v.length = 64) : (sealC i v).length = 65 := by simp [sealC, h]
theorem sealC_all (i : Bool) (v : List (BitVec 8)) : (sealC i v).toArray.all (·.oneCell') = true := by
  rw [Array.all_eq_true]
  intro k hk
  have : ∀ u ∈ sealC i v, u.oneCell' = true := by
    intro u hu
    rcases List.mem_cons.1 hu with rfl | hu
    · rfl
    · obtain ⟨b, _, rfl⟩ := List.mem_map.1 hu; rfl
  exact this _ (by simp)
set_option maxRecDepth 100000 in
set_option maxHeartbeats 3200000 in
theorem scompare_ (w : World) (i j : Bool) (v u : List (BitVec 8)) (hv : v.length = 64) (hu : u.length = 64) :
    Calls Try.prog 16 #[.agg (sealC i v).toArray, .agg (sealC j u).toArray] w fun e w' => e = .returned (.int .i64 (cmpS i v j u)) ∧ Upd [] w w' := by
  have HV := Lib.hid hv
  have HU := Lib.hid hu
  obtain ⟨cv, hcv⟩ : ∃ c, (sealC i v).toArray = c := ⟨_, rfl⟩
  obtain ⟨cu, hcu⟩ : ∃ c, (sealC j u).toArray = c := ⟨_, rfl⟩
  rw [hcv, hcu]
  have HCV := Lib.hid hcv
  have HCU := Lib.hid hcu
  clear hv hu hcv hcu
  cases i
  · cases j
    · show Calls _ _ _ _ fun e w' => e = .returned (.int .i64 (cmpB v u)) ∧ Upd [] w w'
      obtain ⟨M, hM⟩ : ∃ M, cmpB v u = M := ⟨_, rfl⟩
      rw [hM]
      have HM := Lib.hid hM
      clear hM
      go_enter Try.func16, Try.ntmps16
      go_wp2_with (with_reducible refine arm_box (by with_unfolding_all exact rfl) ?_)
      intro b2 w2 hb2 k2 hU2 hz2
      change w2.heap[b2]? = some (.cells cv 46 (0, 0)) at k2
      go_wp2_with (with_reducible refine arm_box (by with_unfolding_all exact rfl) ?_)
      intro b3 w3 hb3 k3 hU3 hz3
      change w3.heap[b3]? = some (.cells cu 46 (0, 0)) at k3
      have k2' := hU3.heap k2 (by simp)
      rw [← HCV.out] at k2'
      rw [← HCU.out] at k3
      have hV3 := hU2.trans hU3
      have q2 : w3.cell? ⟨b2, 0, none⟩ = some (.bool false) := by rw [cell_of_row _ _ _ _ _ _ k2']; rfl
      have q3 : w3.cell? ⟨b3, 0, none⟩ = some (.bool false) := by rw [cell_of_row _ _ _ _ _ _ k3]; rfl
      have HB : Hid (∀ W, Upd [] w3 W → Calls Try.prog 22 #[.slice (some ⟨b2, 1, none⟩) 64 64, .slice (some ⟨b3, 1, none⟩) 64 64] W fun e w' => e = .returned (.int .i64 M) ∧ W = w') := fun W hW => by
        have := bcompare_ W _ _ v u (rd_in (hW.heap k2' (by simp)) v HV.out (by simp [maxLen]) ⟨[.bool _], [], by simp [sealC]; rfl, rfl⟩) (rd_in (hW.heap k3 (by simp)) u HU.out (by simp [maxLen]) ⟨[.bool _], [], by simp [sealC]; rfl, rfl⟩)
        rwa [HM.out] at this
      clear hb2 k2 hU2 hz2 hb3 k3 hU3 hz3 k2'
      go_wp2_with (fail)
      refine wp_region_quiet_all (Upd [] w3) (by kernel_rfl) (by kernel_rfl) (Upd.refl _ _).drew ?_
      refine wpQuiet_step (fun K hK => ?_)
      go_simp
      first
        | (refine ⟨_, fun _ _ => rfl, hK _ ?_⟩; clear hK K)
        | (refine hK _ ?_; clear hK K)
      repeat (first
        | go_big_quiet_skip
        | go_big_quiet_step ((intro hw2; first
            | rfl
            | ((with_reducible refine (HB.out _ hw2).mono ?_); exact fun e w' h => ⟨h.1, h.2 ▸ hw2⟩)
            )))
      refine wpQuiet_nil ?_
      intro w15 hU15
      go_wp2_with (fail)
      go_ret
      exact ⟨rfl, hV3.trans hU15⟩
    · show Calls _ _ _ _ fun e w' => e = .returned (.int .i64 (-1)) ∧ Upd [] w w'
      go_enter Try.func16, Try.ntmps16
      go_wp2_with (with_reducible refine arm_box (by with_unfolding_all exact rfl) ?_)
      intro b2 w2 hb2 k2 hU2 hz2
      change w2.heap[b2]? = some (.cells cv 46 (0, 0)) at k2
      go_wp2_with (with_reducible refine arm_box (by with_unfolding_all exact rfl) ?_)
      intro b3 w3 hb3 k3 hU3 hz3
      change w3.heap[b3]? = some (.cells cu 46 (0, 0)) at k3
      have k2' := hU3.heap k2 (by simp)
      rw [← HCV.out] at k2'
      rw [← HCU.out] at k3
      have hV3 := hU2.trans hU3
      have q2 : w3.cell? ⟨b2, 0, none⟩ = some (.bool false) := by rw [cell_of_row _ _ _ _ _ _ k2']; rfl
      have q3 : w3.cell? ⟨b3, 0, none⟩ = some (.bool true) := by rw [cell_of_row _ _ _ _ _ _ k3]; rfl
      clear hb2 k2 hU2 hz2 hb3 k3 hU3 hz3 k2'
      go_wp2_with (fail)
      go_ret
      exact ⟨rfl, hV3⟩
  · cases j
    · show Calls _ _ _ _ fun e w' => e = .returned (.int .i64 1) ∧ Upd [] w w'
      go_enter Try.func16, Try.ntmps16
      go_wp2_with (with_reducible refine arm_box (by with_unfolding_all exact rfl) ?_)
      intro b2 w2 hb2 k2 hU2 hz2
      change w2.heap[b2]? = some (.cells cv 46 (0, 0)) at k2
      go_wp2_with (with_reducible refine arm_box (by with_unfolding_all exact rfl) ?_)
      intro b3 w3 hb3 k3 hU3 hz3
      change w3.heap[b3]? = some (.cells cu 46 (0, 0)) at k3
      have k2' := hU3.heap k2 (by simp)
      rw [← HCV.out] at k2'
      rw [← HCU.out] at k3
      have hV3 := hU2.trans hU3
      have q2 : w3.cell? ⟨b2, 0, none⟩ = some (.bool true) := by rw [cell_of_row _ _ _ _ _ _ k2']; rfl
      have q3 : w3.cell? ⟨b3, 0, none⟩ = some (.bool false) := by rw [cell_of_row _ _ _ _ _ _ k3]; rfl
      clear hb2 k2 hU2 hz2 hb3 k3 hU3 hz3 k2'
      go_wp2_with (fail)
      go_ret
      exact ⟨rfl, hV3⟩
    · show Calls _ _ _ _ fun e w' => e = .returned (.int .i64 (cmpB v u)) ∧ Upd [] w w'
      obtain ⟨M, hM⟩ : ∃ M, cmpB v u = M := ⟨_, rfl⟩
      rw [hM]
      have HM := Lib.hid hM
      clear hM
      go_enter Try.func16, Try.ntmps16
      go_wp2_with (with_reducible refine arm_box (by with_unfolding_all exact rfl) ?_)
      intro b2 w2 hb2 k2 hU2 hz2
      change w2.heap[b2]? = some (.cells cv 46 (0, 0)) at k2
      go_wp2_with (with_reducible refine arm_box (by with_unfolding_all exact rfl) ?_)
      intro b3 w3 hb3 k3 hU3 hz3
      change w3.heap[b3]? = some (.cells cu 46 (0, 0)) at k3
      have k2' := hU3.heap k2 (by simp)
      rw [← HCV.out] at k2'
      rw [← HCU.out] at k3
      have hV3 := hU2.trans hU3
      have q2 : w3.cell? ⟨b2, 0, none⟩ = some (.bool true) := by rw [cell_of_row _ _ _ _ _ _ k2']; rfl
      have q3 : w3.cell? ⟨b3, 0, none⟩ = some (.bool true) := by rw [cell_of_row _ _ _ _ _ _ k3]; rfl
      have HB : Hid (∀ W, Upd [] w3 W → Calls Try.prog 22 #[.slice (some ⟨b2, 1, none⟩) 64 64, .slice (some ⟨b3, 1, none⟩) 64 64] W fun e w' => e = .returned (.int .i64 M) ∧ W = w') := fun W hW => by
        have := bcompare_ W _ _ v u (rd_in (hW.heap k2' (by simp)) v HV.out (by simp [maxLen]) ⟨[.bool _], [], by simp [sealC]; rfl, rfl⟩) (rd_in (hW.heap k3 (by simp)) u HU.out (by simp [maxLen]) ⟨[.bool _], [], by simp [sealC]; rfl, rfl⟩)
        rwa [HM.out] at this
      clear hb2 k2 hU2 hz2 hb3 k3 hU3 hz3 k2'
      go_wp2_with (fail)
      refine wp_region_quiet_all (Upd [] w3) (by kernel_rfl) (by kernel_rfl) (Upd.refl _ _).drew ?_
      refine wpQuiet_step (fun K hK => ?_)
      go_simp
      first
        | (refine ⟨_, fun _ _ => rfl, hK _ ?_⟩; clear hK K)
        | (refine hK _ ?_; clear hK K)
      repeat (first
        | go_big_quiet_skip
        | go_big_quiet_step ((intro hw2; first
            | rfl
            | ((with_reducible refine (HB.out _ hw2).mono ?_); exact fun e w' h => ⟨h.1, h.2 ▸ hw2⟩)
            )))
      refine wpQuiet_nil ?_
      intro w15 hU15
      go_wp2_with (fail)
      go_ret
      exact ⟨rfl, hV3.trans hU15⟩
set_option maxRecDepth 100000 in
set_option maxHeartbeats 1600000 in
theorem greater_s (w : World) (i j : Bool) (v u : List (BitVec 8)) (hv : v.length = 64) (hu : u.length = 64) :
    Calls Try.prog 15 #[.agg (sealC i v).toArray, .agg (sealC j u).toArray, .func (.func 16) #[.agg (sealC i v).toArray] #[]] w fun e w' => e = .returned (.agg (if cmpS i v j u < 0 then sealC j u else sealC i v).toArray) ∧ Upd [] w w' := by
  have HC : Hid (∀ W, Calls Try.prog 16 #[.agg (sealC i v).toArray, .agg (sealC j u).toArray] W fun e w' => e = .returned (.int .i64 (cmpS i v j u)) ∧ Upd [] W w') := fun W => scompare_ W i j v u hv hu
  have hs1 : (Try.prog.info? 46).map (·.size) = some (sealC i v).toArray.size := by rw [size_seal]; simp [sealC_length hv]
  have hs2 : (Try.prog.info? 46).map (·.size) = some (sealC j u).toArray.size := by rw [size_seal]; simp [sealC_length hu]
  have ho1 : zseal.size = (sealC i v).toArray.size := by simp [zseal, zrow8_size, sealC_length hv]
  have ho2 : zseal.size = (sealC j u).toArray.size := by simp [zseal, zrow8_size, sealC_length hu]
  have ha1 := sealC_all i v
  have ha2 := sealC_all j u
  obtain ⟨c1, hc1⟩ : ∃ c, (sealC i v).toArray = c := ⟨_, rfl⟩
  obtain ⟨c2, hc2⟩ : ∃ c, (sealC j u).toArray = c := ⟨_, rfl⟩
  rw [hc1] at hs1 ho1 ha1
  rw [hc2] at hs2 ho2 ha2
  rw [hc1, hc2] at HC
  have HR : Hid ((if cmpS i v j u < 0 then sealC j u else sealC i v).toArray = if cmpS i v j u < 0 then c2 else c1) := by
    show _ = _
    rw [← hc1, ← hc2]
    split <;> rfl
  obtain ⟨R, hR⟩ : ∃ c, (if cmpS i v j u < 0 then sealC j u else sealC i v).toArray = c := ⟨_, rfl⟩
  rw [hR] at HR ⊢
  rw [hc1, hc2]
  obtain ⟨M, hM⟩ : ∃ M, cmpS i v j u = M := ⟨_, rfl⟩
  rw [hM] at HC HR
  clear hc1 hc2 hR hM
  by_cases h : M < 0
  · have hd : decide (M < 0) = true := by simpa using h
    have hr : R = c2 := by have := HR.out; rwa [if_pos h] at this
    subst hr
    go_enter Try.func15, Try.ntmps15
    go_wp2_with (with_reducible refine arm_box (by with_unfolding_all exact rfl) ?_)
    intro b3 w3 hb3 k3 hU3 hz3
    change w3.heap[b3]? = some (.cells c1 46 (0, 0)) at k3
    go_wp2_with (with_reducible refine arm_box (by with_unfolding_all exact rfl) ?_)
    intro b4 w4 hb4 k4 hU4 hz4
    change w4.heap[b4]? = some (.cells R 46 (0, 0)) at k4
    have k34 := hU4.heap k3 (by simp)
    go_wp2_with (with_reducible refine arm_alloc (zero_seal _) ?_)
    intro b6 w6 hb6 k6 hU6 hz6
    change w6.heap[b6]? = some (.cells zseal 46 (0, 0)) at k6
    have k46 := hU6.heap k4 (by simp)
    go_wp2_with (with_reducible refine arm_load (by with_unfolding_all exact rfl) k46 Try.underlying46 (by with_unfolding_all exact rfl) hs2 ?_)
    with_reducible refine (HC.out _).mono ?_
    rintro e w7 ⟨rfl, hU7⟩
    have k47 := hU7.heap k46 (by simp)
    have k67 := hU7.heap k6 (by simp)
    have k37 := hU7.heap (hU6.heap k34 (by simp)) (by simp)
    have hV7 := ((hU3.trans hU4).trans hU6).trans hU7
    have hl6 : w.heap.size ≤ b6 := by have h1 := hU3.size; have h2 := hU4.size; omega
    clear hb3 k3 hU3 hz3 hb4 k4 hU4 hz4 k34 hb6 k6 hU6 hz6 k46 hU7
    go_wp2_with (first
      | (with_reducible refine arm_load (by with_unfolding_all exact rfl) k47 Try.underlying46 (by with_unfolding_all exact rfl) hs2 ?_)
      | (with_reducible refine arm_store (by with_unfolding_all exact rfl) (by with_unfolding_all exact rfl) k67 hs2 ho2 ha2 ?_))
    intro w8 k8 hX8 hz8
    go_wp2_with (fail)
    refine bodyPost_ret (v := .agg R) (results_cell_row rfl _ _ b6 46 _ (0, 0) _ rfl k8 Try.underlying46 rfl hs2) rfl ⟨rfl, ?_⟩
    exact hV7.trans' hX8 (fun i hm hi => by simp at hm; omega)
  · have hd : decide (M < 0) = false := by simpa using h
    have hr : R = c1 := by have := HR.out; rwa [if_neg h] at this
    subst hr
    go_enter Try.func15, Try.ntmps15
    go_wp2_with (with_reducible refine arm_box (by with_unfolding_all exact rfl) ?_)
    intro b3 w3 hb3 k3 hU3 hz3
    change w3.heap[b3]? = some (.cells R 46 (0, 0)) at k3
    go_wp2_with (with_reducible refine arm_box (by with_unfolding_all exact rfl) ?_)
    intro b4 w4 hb4 k4 hU4 hz4
    change w4.heap[b4]? = some (.cells c2 46 (0, 0)) at k4
    have k34 := hU4.heap k3 (by simp)
    go_wp2_with (with_reducible refine arm_alloc (zero_seal _) ?_)
    intro b6 w6 hb6 k6 hU6 hz6
    change w6.heap[b6]? = some (.cells zseal 46 (0, 0)) at k6
    have k46 := hU6.heap k4 (by simp)
    go_wp2_with (with_reducible refine arm_load (by with_unfolding_all exact rfl) k46 Try.underlying46 (by with_unfolding_all exact rfl) hs2 ?_)
    with_reducible refine (HC.out _).mono ?_
    rintro e w7 ⟨rfl, hU7⟩
    have k47 := hU7.heap k46 (by simp)
    have k67 := hU7.heap k6 (by simp)
    have k37 := hU7.heap (hU6.heap k34 (by simp)) (by simp)
    have hV7 := ((hU3.trans hU4).trans hU6).trans hU7
    have hl6 : w.heap.size ≤ b6 := by have h1 := hU3.size; have h2 := hU4.size; omega
    clear hb3 k3 hU3 hz3 hb4 k4 hU4 hz4 k34 hb6 k6 hU6 hz6 k46 hU7
    go_wp2_with (first
      | (with_reducible refine arm_load (by with_unfolding_all exact rfl) k37 Try.underlying46 (by with_unfolding_all exact rfl) hs1 ?_)
      | (with_reducible refine arm_store (by with_unfolding_all exact rfl) (by with_unfolding_all exact rfl) k67 hs1 ho1 ha1 ?_))
    intro w8 k8 hX8 hz8
    go_wp2_with (fail)
    refine bodyPost_ret (v := .agg R) (results_cell_row rfl _ _ b6 46 _ (0, 0) _ rfl k8 Try.underlying46 rfl hs1) rfl ⟨rfl, ?_⟩
    exact hV7.trans' hX8 (fun i hm hi => by simp at hm; omega)
theorem size_sig : (Try.prog.info? 25).map (·.size) = some 64 := by kernel_rfl
theorem szrow64 {l : List (BitVec 8)} (h : l.length = 64) : (Try.prog.info? 25).map (·.size) = some (l.map U8).toArray.size := by rw [size_sig]; simp [h]
theorem bytes_all (v : List (BitVec 8)) : (v.map U8).toArray.all (·.oneCell') = true := by simp
theorem built_sig0 : Try.prog.built 25 [] = some (zrow8 64) := by kernel_rfl
theorem info_seal : ∃ i, Try.prog.info? 46 = some i ∧ (∃ z, i.zero = some z ∧ z.cells.size = 65) ∧ i.size = 65 := by
  have h : (Try.prog.info? 46).map (fun i => (i.zero.map (·.cells.size), i.size)) = some (some 65, 65) := by kernel_rfl
  cases hq : Try.prog.info? 46 with
  | none => rw [hq] at h; cases h
  | some i =>
    rw [hq] at h
    simp only [Option.map_some, Option.some.injEq, Prod.mk.injEq] at h
    refine ⟨i, rfl, ?_, h.2⟩
    cases hz : i.zero with
    | none => rw [hz] at h; cases h.1
    | some z => rw [hz] at h; exact ⟨z, rfl, by simpa using h.1⟩
theorem seal_fields : ∃ f0 f1, Try.prog.underlying 46 = some (.struct #[f0, f1]) ∧ f0.type = 4 ∧ f1.type = 25 ∧ f0.offset = 0 ∧ f1.offset = 1 := ⟨_, _, Try.underlying46, rfl, rfl, rfl, rfl⟩
theorem size_bool1 : (Try.prog.info? 4).map (·.size) = some 1 := by kernel_rfl
theorem built_seal (b : Bool) (s : List (BitVec 8)) (hs : s.length = 64) : Try.prog.built 46 [(0, .bool b), (1, .agg (s.map U8).toArray)] = some (sealC b s).toArray := by
  obtain ⟨i, hi, ⟨z, hz, hzc⟩, hsz⟩ := info_seal
  obtain ⟨f0, f1, hu, t0, t1, o0, o1⟩ := seal_fields
  cases hq : Try.prog.info? 4 with
  | none => have := size_bool1; rw [hq] at this; cases this
  | some ib =>
    have hsb : ib.size = 1 := by have := size_bool1; rw [hq] at this; simpa using this
    cases hr : Try.prog.info? 25 with
    | none => have := size_sig; rw [hr] at this; cases this
    | some ig =>
      have hsg : ig.size = 64 := by have := size_sig; rw [hr] at this; simpa using this
      have := built_two (P := Try.prog) (s0 := 1) (s1 := 64) (v0 := .bool b) (v1 := .agg (s.map U8).toArray) hi hu hz (by rw [t0]; exact hq) (by rw [t1]; exact hr) o0 o1 hsb hsg hzc (by simp [Value.cells]) (by simp [Value.cells, hs])
      rw [this]
      simp [Value.cells, sealC]
theorem arm_build {P : Program} {ops : Array Oper} {rest : List Oper} {a : Act} {w : World} {Q : Exit → Act → World → Prop} {dst : Option Tmp} {ty type : TypeId} {pos : String} {after : Array Edge} {parts : Array (Nat × Operand)} {cs : Array Value}
    (hf : P.built ty (parts.map fun (i, x) => (i, a.eval x)).toList = some cs) (h : wpList P ops Q rest (a.put dst (.agg cs)) w) : wpList P ops Q (⟨dst, .build ty parts, type, pos, after, none⟩ :: rest) a w :=
  wpList_plain rfl fun _ hK => wp_build ty parts rfl (by rw [hf]; rfl) (by simp only [hf, Option.getD_some]; exact hK _ _ h)
theorem arm_build2 {P : Program} {ops : Array Oper} {rest : List Oper} {a : Act} {w : World} {Q : Exit → Act → World → Prop} {dst : Option Tmp} {ty type : TypeId} {pos : String} {after : Array Edge} {x0 x1 : Operand} {v0 v1 : Value} {cs : Array Value}
    (h0 : a.eval x0 = v0) (h1 : a.eval x1 = v1) (hf : P.built ty [(0, v0), (1, v1)] = some cs) (h : wpList P ops Q rest (a.put dst (.agg cs)) w) : wpList P ops Q (⟨dst, .build ty #[(0, x0), (1, x1)], type, pos, after, none⟩ :: rest) a w := by
  subst h0 h1
  exact arm_build (by simpa using hf) h
def zeros64 : List (BitVec 8) := List.replicate 64 0
theorem zeros64_row : (zeros64.map U8).toArray = zrow8 64 := by simp [zeros64, zrow8]
set_option maxRecDepth 100000 in
set_option maxHeartbeats 1600000 in
theorem clean_ (w : World) (b : Bool) (s : List (BitVec 8)) (hs : s.length = 64) :
    Calls Try.prog 14 #[.bool b, .agg (s.map U8).toArray] w fun e w' => e = .returned (.agg (sealC b (if b then s else zeros64)).toArray) ∧ Upd [] w w' := by
  obtain ⟨r, hr⟩ : ∃ r, (if b then s else zeros64) = r := ⟨_, rfl⟩
  have hrl : r.length = 64 := by rw [← hr]; cases b <;> simp [hs, zeros64]
  rw [hr]
  have hb := built_seal b r hrl
  have hs1 : (Try.prog.info? 46).map (·.size) = some (sealC b r).toArray.size := by rw [size_seal]; simp [sealC_length hrl]
  have ho1 : zseal.size = (sealC b r).toArray.size := by simp [zseal, zrow8_size, sealC_length hrl]
  have ha1 := sealC_all b r
  have hss := szrow64 hs
  have hsr := szrow64 hrl
  have hor : (s.map U8).toArray.size = (r.map U8).toArray.size := by simp [hs, hrl]
  have har := bytes_all r
  obtain ⟨cR, hcR⟩ : ∃ c, (sealC b r).toArray = c := ⟨_, rfl⟩
  obtain ⟨cr, hcr⟩ : ∃ c, (r.map U8).toArray = c := ⟨_, rfl⟩
  obtain ⟨cs, hcs⟩ : ∃ c, (s.map U8).toArray = c := ⟨_, rfl⟩
  rw [hcR] at hb hs1 ho1 ha1 ⊢
  rw [hcr] at hb hsr hor har
  rw [hcs] at hss hor ⊢
  cases b
  · have hz : zrow8 64 = cr := by rw [← hcr, ← hr, ← zeros64_row]; rfl
    have hb0 := built_sig0
    rw [hz] at hb0
    clear hr hrl hcR hcr hcs hz
    go_enter Try.func14, Try.ntmps14
    go_wp2_with (with_reducible refine arm_box (by with_unfolding_all exact rfl) ?_)
    intro b3 w3 hb3 k3 hU3 hz3
    change w3.heap[b3]? = some (.cells cs 25 (0, 0)) at k3
    go_wp2_with (with_reducible refine arm_alloc (zero_seal _) ?_)
    intro b4 w4 hb4 k4 hU4 hz4
    change w4.heap[b4]? = some (.cells zseal 46 (0, 0)) at k4
    have k34 := hU4.heap k3 (by simp)
    have hl4 : w.heap.size ≤ b4 := by have := hU3.size; omega
    have hl3 : w.heap.size ≤ b3 := by omega
    have hne : b4 ≠ b3 := by have := lt_of_heap k3; omega
    go_wp2_with (first
      | (with_reducible refine arm_build0 hb0 ?_)
      | (with_reducible refine arm_store (by with_unfolding_all exact rfl) (by with_unfolding_all exact rfl) k34 hsr hor har ?_))
    intro w5 k5 hX5 hz5
    have k45 := hX5.heap k4 (by simpa using hne)
    have hV5 := (hU3.trans hU4).trans' hX5 (fun i hm hi => by simp at hm; omega)
    clear hb3 k3 hU3 hz3 hb4 k4 hU4 hz4 k34 hX5 hz5
    go_wp2_with (first
      | (with_reducible refine arm_load (by with_unfolding_all exact rfl) k5 Try.underlying25 (by with_unfolding_all exact rfl) hsr ?_)
      | (with_reducible refine arm_build2 (by with_unfolding_all exact rfl) (by with_unfolding_all exact rfl) hb ?_)
      | (with_reducible refine arm_store (by with_unfolding_all exact rfl) (by with_unfolding_all exact rfl) k45 hs1 ho1 ha1 ?_))
    intro w6 k6 hX6 hz6
    go_wp2_with (fail)
    refine bodyPost_ret (v := .agg cR) (results_cell_row rfl _ _ b4 46 _ (0, 0) _ rfl k6 Try.underlying46 rfl hs1) rfl ⟨rfl, ?_⟩
    exact hV5.trans' hX6 (fun i hm hi => by simp at hm; omega)
  · have hz : cs = cr := by rw [← hcr, ← hcs, ← hr]; rfl
    subst hz
    clear hr hrl hcR hcr hcs
    go_enter Try.func14, Try.ntmps14
    go_wp2_with (with_reducible refine arm_box (by with_unfolding_all exact rfl) ?_)
    intro b3 w3 hb3 k3 hU3 hz3
    change w3.heap[b3]? = some (.cells cs 25 (0, 0)) at k3
    go_wp2_with (with_reducible refine arm_alloc (zero_seal _) ?_)
    intro b4 w4 hb4 k4 hU4 hz4
    change w4.heap[b4]? = some (.cells zseal 46 (0, 0)) at k4
    have k34 := hU4.heap k3 (by simp)
    have hl4 : w.heap.size ≤ b4 := by have := hU3.size; omega
    have hV4 := hU3.trans hU4
    clear hb3 k3 hU3 hz3 hb4 hU4 hz4
    go_wp2_with (first
      | (with_reducible refine arm_load (by with_unfolding_all exact rfl) k34 Try.underlying25 (by with_unfolding_all exact rfl) hsr ?_)
      | (with_reducible refine arm_build2 (by with_unfolding_all exact rfl) (by with_unfolding_all exact rfl) hb ?_)
      | (with_reducible refine arm_store (by with_unfolding_all exact rfl) (by with_unfolding_all exact rfl) k4 hs1 ho1 ha1 ?_))
    intro w6 k6 hX6 hz6
    go_wp2_with (fail)
    refine bodyPost_ret (v := .agg cR) (results_cell_row rfl _ _ b4 46 _ (0, 0) _ rfl k6 Try.underlying46 rfl hs1) rfl ⟨rfl, ?_⟩
    exact hV4.trans' hX6 (fun i hm hi => by simp at hm; omega)
end Go.Proofs.Ytjoliagnhmfdiaa
