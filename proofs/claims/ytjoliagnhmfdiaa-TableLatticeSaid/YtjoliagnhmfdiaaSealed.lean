/-
  The document's 'sealed'.
-/
import Derived.Test.YtjoliagnhmfdiaaAbove
namespace Go.Proofs.Ytjoliagnhmfdiaa
open Go Go.RowKit Go.Proofs
theorem zero_sig (w : World) : (zeroValue 25).run Try.prog w = .ok (.agg (zrow8 64)) w := by kernel_rfl
theorem size_w64 : (zrow8 64).size = 64 := zrow8_size 64
theorem zeros64_len : zeros64.length = 64 := by simp [zeros64]
theorem results_tmp_cell {P : Program} {fn : Func} {p u : Tmp} {ty : TypeId} (h : fn.results = #[.tmp u, .cell p ty]) (tmps : Array Value) (w : World) (g : Nat) (t : TypeId) (cs : Array Value) (fr : Nat × Nat) (d : TypeDesc)
    (hp : tmps.getD p undef = .pointer (some ⟨g, 0, none⟩)) (hg : w.heap[g]? = some (.cells cs t fr))
    (hu : P.underlying ty = some d) (hd : (match d with | .struct _ | .array _ _ => true | _ => false) = true) (hi : (P.info? ty).map (·.size) = some cs.size) {v0 : Value} (hv : tmps.getD u undef = v0) :
    (results fn tmps).run P w = .ok (.tuple #[v0, .agg cs]) w := by
  subst hv
  have hp' : tmps[p]?.getD undef = .pointer (some ⟨g, 0, none⟩) := by simpa using hp
  simp [results, h, hp', asAddr, run_loadVar_row w g t ty cs fr d hg hu hd hi, Result.andThen]
theorem quiet_build0 {P : Program} {C : World → Prop} {a : Act} {o : Oper} (ty : TypeId) (ho : o.op = .build ty #[]) {cs : Array Value} (hf : P.built ty [] = some cs) : ∀ w, C w → o.quietAt P a C w (.agg cs) := by
  intro w hw
  unfold Oper.quietAt execOp
  simp only [ho, Sem.run_bind, Sem.run_pure, Result.andThen_ok, List.map_toArray, List.map_nil, run_build w ty #[] cs (by simpa using hf)]
  exact ⟨rfl, rfl⟩
set_option maxRecDepth 100000 in
set_option maxHeartbeats 6400000 in
theorem sealed_ (w : World) (a b : Bool) (s t : List (BitVec 8)) (hs : s.length = 64) (ht : t.length = 64) :
    Calls Try.prog 18 #[.bool a, .agg (s.map U8).toArray, .bool b, .agg (t.map U8).toArray] w fun e w' => e = .returned (.tuple #[.bool (a || b), .agg ((sealSig a s b t).map U8).toArray]) ∧ Upd [] w w' := by
  have HAB : Hid (∀ W b5 b7, W.heap[b5]? = some (.cells (s.map U8).toArray 25 (0, 0)) → W.heap[b7]? = some (.cells (t.map U8).toArray 25 (0, 0)) → Calls Try.prog 17 #[.slice (some ⟨b5, 0, none⟩) 64 64, .slice (some ⟨b7, 0, none⟩) 64 64] W fun e w' => e = .returned (.bool (aboveB s t)) ∧ Upd [] W w') := fun W b5 b7 h5 h7 =>
    above_ W _ _ s t (rd_in h5 s hs (by simp [maxLen]) ⟨[], [], by simp, rfl⟩) (rd_in h7 t ht (by simp [maxLen]) ⟨[], [], by simp, rfl⟩) (by omega) (by omega)
  have hss := szrow64 hs
  have hst := szrow64 ht
  have hsz := szrow64 zeros64_len
  have hos : (zrow8 64).size = (s.map U8).toArray.size := by simp [zrow8_size, hs]
  have hot : (zrow8 64).size = (t.map U8).toArray.size := by simp [zrow8_size, ht]
  have hoz : (zrow8 64).size = (zeros64.map U8).toArray.size := by simp [zrow8_size, zeros64_len]
  have has := bytes_all s
  have hat := bytes_all t
  have haz := bytes_all zeros64
  have hb0 := built_sig0
  rw [← zeros64_row] at hb0
  obtain ⟨A, hA⟩ : ∃ A, aboveB s t = A := ⟨_, rfl⟩
  rw [hA] at HAB
  have HR : Hid (sealSig a s b t = if a && b then (if A then s else t) else if a then s else if b then t else zeros64) := by
    show _ = _
    unfold sealSig; rw [hA]
  obtain ⟨R, hR⟩ : ∃ R, sealSig a s b t = R := ⟨_, rfl⟩
  rw [hR] at HR ⊢
  obtain ⟨cs, hcs⟩ : ∃ c, (s.map U8).toArray = c := ⟨_, rfl⟩
  obtain ⟨ct, hct⟩ : ∃ c, (t.map U8).toArray = c := ⟨_, rfl⟩
  obtain ⟨cz, hcz⟩ : ∃ c, (zeros64.map U8).toArray = c := ⟨_, rfl⟩
  rw [hcs] at HAB hss hos has ⊢
  rw [hct] at HAB hst hot hat ⊢
  rw [hcz] at hsz hoz haz hb0
  have HCS := Lib.hid hcs
  have HCT := Lib.hid hct
  have HCZ := Lib.hid hcz
  clear hA hR hcs hct hcz hs ht
  cases a
  · cases b
    · have hr : R = zeros64 := by have := HR.out; simpa using this
      go_enter Try.func18, Try.ntmps18
      go_wp2_with (with_reducible refine arm_box (by with_unfolding_all exact rfl) ?_)
      intro b5 w5 hb5 k5 hU5 hz5
      change w5.heap[b5]? = some (.cells cs 25 (0, 0)) at k5
      go_wp2_with (with_reducible refine arm_box (by with_unfolding_all exact rfl) ?_)
      intro b7 w7 hb7 k7 hU7 hz7
      change w7.heap[b7]? = some (.cells ct 25 (0, 0)) at k7
      go_wp2_with (with_reducible refine arm_alloc (zero_sig _) ?_)
      intro b9 w9 hb9 k9 hU9 hz9
      change w9.heap[b9]? = some (.cells (zrow8 64) 25 (0, 0)) at k9
      have k5a := hU9.heap (hU7.heap k5 (by simp)) (by simp)
      have k7a := hU9.heap k7 (by simp)
      have hV := (hU5.trans hU7).trans hU9
      have hl9 : w.heap.size ≤ b9 := by have h1 := hU5.size; have h2 := hU7.size; omega
      clear hb5 k5 hU5 hz5 hb7 k7 hU7 hz7 hb9 hU9 hz9
      go_wp2_with (first
        | (with_reducible refine arm_build0 hb0 ?_)
        | (with_reducible refine arm_store (by with_unfolding_all exact rfl) (by with_unfolding_all exact rfl) k9 hsz hoz haz ?_))
      intro wz kz hXz hzz
      go_wp2_with (fail)
      refine bodyPost_ret (v := .tuple #[.bool false, .agg cz]) (results_tmp_cell rfl _ _ b9 25 _ (0, 0) _ rfl kz Try.underlying25 rfl hsz rfl) rfl ⟨by rw [hr, HCZ.out]; rfl, ?_⟩
      exact hV.trans' hXz (fun i hm hi => by simp at hm; omega)
    · have hr : R = t := by have := HR.out; simpa using this
      go_enter Try.func18, Try.ntmps18
      go_wp2_with (with_reducible refine arm_box (by with_unfolding_all exact rfl) ?_)
      intro b5 w5 hb5 k5 hU5 hz5
      change w5.heap[b5]? = some (.cells cs 25 (0, 0)) at k5
      go_wp2_with (with_reducible refine arm_box (by with_unfolding_all exact rfl) ?_)
      intro b7 w7 hb7 k7 hU7 hz7
      change w7.heap[b7]? = some (.cells ct 25 (0, 0)) at k7
      go_wp2_with (with_reducible refine arm_alloc (zero_sig _) ?_)
      intro b9 w9 hb9 k9 hU9 hz9
      change w9.heap[b9]? = some (.cells (zrow8 64) 25 (0, 0)) at k9
      have k5a := hU9.heap (hU7.heap k5 (by simp)) (by simp)
      have k7a := hU9.heap k7 (by simp)
      have hV := (hU5.trans hU7).trans hU9
      have hl9 : w.heap.size ≤ b9 := by have h1 := hU5.size; have h2 := hU7.size; omega
      clear hb5 k5 hU5 hz5 hb7 k7 hU7 hz7 hb9 hU9 hz9
      have HQ : Hid (∀ W', Upd [] w9 W' → ∃ t fr, W'.heap[b7]? = some (.cells ct t fr)) := fun W' hW => ⟨_, _, hW.heap k7a (by simp)⟩
      go_upto_region 8 with (fail)
      refine wp_region_quiet_tail 2 (Upd [] w9) (by kernel_rfl) (by kernel_rfl) (Upd.refl _ _).drew ?_
      simp only [List.take_succ_cons, List.take_zero, List.drop_succ_cons, List.drop_zero]
      refine wpQuiet_valK rfl (quiet_load_row 25 _ rfl b7 rfl _ HQ.out Try.underlying25 rfl hst) (fun K hK => ?_)
      go_simp
      refine hK _ ?_
      clear hK K
      refine wpQuiet_step (fun K hK => ?_)
      go_simp
      first
        | (refine ⟨_, fun _ _ => rfl, hK _ ?_⟩; clear hK K)
        | (refine hK _ ?_; clear hK K)
      refine wpQuiet_nil ?_
      intro wt hUt
      have k9t := hUt.heap k9 (by simp)
      go_wp2_with (with_reducible refine arm_store (by with_unfolding_all exact rfl) (by with_unfolding_all exact rfl) k9t hst hot hat ?_)
      intro wz kz hXz hzz
      go_wp2_with (fail)
      refine bodyPost_ret (v := .tuple #[.bool true, .agg ct]) (results_tmp_cell rfl _ _ b9 25 _ (0, 0) _ rfl kz Try.underlying25 rfl hst rfl) rfl ⟨by rw [hr, HCT.out]; rfl, ?_⟩
      exact (hV.trans hUt).trans' hXz (fun i hm hi => by simp at hm; omega)
  · cases b
    · have hr : R = s := by have := HR.out; simpa using this
      go_enter Try.func18, Try.ntmps18
      go_wp2_with (with_reducible refine arm_box (by with_unfolding_all exact rfl) ?_)
      intro b5 w5 hb5 k5 hU5 hz5
      change w5.heap[b5]? = some (.cells cs 25 (0, 0)) at k5
      go_wp2_with (with_reducible refine arm_box (by with_unfolding_all exact rfl) ?_)
      intro b7 w7 hb7 k7 hU7 hz7
      change w7.heap[b7]? = some (.cells ct 25 (0, 0)) at k7
      go_wp2_with (with_reducible refine arm_alloc (zero_sig _) ?_)
      intro b9 w9 hb9 k9 hU9 hz9
      change w9.heap[b9]? = some (.cells (zrow8 64) 25 (0, 0)) at k9
      have k5a := hU9.heap (hU7.heap k5 (by simp)) (by simp)
      have k7a := hU9.heap k7 (by simp)
      have hV := (hU5.trans hU7).trans hU9
      have hl9 : w.heap.size ≤ b9 := by have h1 := hU5.size; have h2 := hU7.size; omega
      clear hb5 k5 hU5 hz5 hb7 k7 hU7 hz7 hb9 hU9 hz9
      have HQ : Hid (∀ W', Upd [] w9 W' → ∃ t fr, W'.heap[b5]? = some (.cells cs t fr)) := fun W' hW => ⟨_, _, hW.heap k5a (by simp)⟩
      go_upto_region 6 with (fail)
      refine wp_region_quiet_tail 2 (Upd [] w9) (by kernel_rfl) (by kernel_rfl) (Upd.refl _ _).drew ?_
      simp only [List.take_succ_cons, List.take_zero, List.drop_succ_cons, List.drop_zero]
      refine wpQuiet_valK rfl (quiet_load_row 25 _ rfl b5 rfl _ HQ.out Try.underlying25 rfl hss) (fun K hK => ?_)
      go_simp
      refine hK _ ?_
      clear hK K
      refine wpQuiet_step (fun K hK => ?_)
      go_simp
      first
        | (refine ⟨_, fun _ _ => rfl, hK _ ?_⟩; clear hK K)
        | (refine hK _ ?_; clear hK K)
      refine wpQuiet_nil ?_
      intro wt hUt
      have k9t := hUt.heap k9 (by simp)
      go_wp2_with (with_reducible refine arm_store (by with_unfolding_all exact rfl) (by with_unfolding_all exact rfl) k9t hss hos has ?_)
      intro wz kz hXz hzz
      go_wp2_with (fail)
      refine bodyPost_ret (v := .tuple #[.bool true, .agg cs]) (results_tmp_cell rfl _ _ b9 25 _ (0, 0) _ rfl kz Try.underlying25 rfl hss rfl) rfl ⟨by rw [hr, HCS.out]; rfl, ?_⟩
      exact (hV.trans hUt).trans' hXz (fun i hm hi => by simp at hm; omega)
    · go_enter Try.func18, Try.ntmps18
      go_wp2_with (with_reducible refine arm_box (by with_unfolding_all exact rfl) ?_)
      intro b5 w5 hb5 k5 hU5 hz5
      change w5.heap[b5]? = some (.cells cs 25 (0, 0)) at k5
      go_wp2_with (with_reducible refine arm_box (by with_unfolding_all exact rfl) ?_)
      intro b7 w7 hb7 k7 hU7 hz7
      change w7.heap[b7]? = some (.cells ct 25 (0, 0)) at k7
      go_wp2_with (with_reducible refine arm_alloc (zero_sig _) ?_)
      intro b9 w9 hb9 k9 hU9 hz9
      change w9.heap[b9]? = some (.cells (zrow8 64) 25 (0, 0)) at k9
      have k5a := hU9.heap (hU7.heap k5 (by simp)) (by simp)
      have k7a := hU9.heap k7 (by simp)
      have hV := (hU5.trans hU7).trans hU9
      have hl9 : w.heap.size ≤ b9 := by have h1 := hU5.size; have h2 := hU7.size; omega
      clear hb5 k5 hU5 hz5 hb7 k7 hU7 hz7 hb9 hU9 hz9
      have HAB9 : Hid (∀ W, Upd [] w9 W → Calls Try.prog 17 #[.slice (some ⟨b5, 0, none⟩) 64 64, .slice (some ⟨b7, 0, none⟩) 64 64] W fun e w' => e = .returned (.bool A) ∧ Upd [] W w') := fun W hW => HAB.out W b5 b7 (hW.heap k5a (by simp)) (hW.heap k7a (by simp))
      go_upto_region 2 with (fail)
      refine wp_region_quiet_all (Upd [] w9) (by kernel_rfl) (by kernel_rfl) (Upd.refl _ _).drew ?_
      refine wpQuiet_step (fun K hK => ?_)
      go_simp
      first
        | (refine ⟨_, fun _ _ => rfl, hK _ ?_⟩; clear hK K)
        | (refine hK _ ?_; clear hK K)
      repeat (first
        | go_big_quiet_skip
        | go_big_quiet_step ((intro hw2; first
            | rfl
            | ((with_reducible refine (HAB9.out _ hw2).mono ?_); exact fun e w' h => ⟨h.1, hw2.trans h.2⟩)
            )))
      refine wpQuiet_nil ?_
      intro wq hUq
      have k5q := hUq.heap k5a (by simp)
      have k7q := hUq.heap k7a (by simp)
      have k9q := hUq.heap k9 (by simp)
      have hVq := hV.trans hUq
      clear HAB9 hUq k5a k7a
      cases A
      · have hr : R = t := by have := HR.out; simpa using this
        have HQ : Hid (∀ W', Upd [] wq W' → ∃ t fr, W'.heap[b7]? = some (.cells ct t fr)) := fun W' hW => ⟨_, _, hW.heap k7q (by simp)⟩
        go_upto_region 4 with (fail)
        refine wp_region_quiet_tail 2 (Upd [] wq) (by kernel_rfl) (by kernel_rfl) (Upd.refl _ _).drew ?_
        simp only [List.take_succ_cons, List.take_zero, List.drop_succ_cons, List.drop_zero]
        refine wpQuiet_valK rfl (quiet_load_row 25 _ rfl b7 rfl _ HQ.out Try.underlying25 rfl hst) (fun K hK => ?_)
        go_simp
        refine hK _ ?_
        clear hK K
        refine wpQuiet_step (fun K hK => ?_)
        go_simp
        first
          | (refine ⟨_, fun _ _ => rfl, hK _ ?_⟩; clear hK K)
          | (refine hK _ ?_; clear hK K)
        refine wpQuiet_nil ?_
        intro wt hUt
        have k9t := hUt.heap k9q (by simp)
        go_wp2_with (with_reducible refine arm_store (by with_unfolding_all exact rfl) (by with_unfolding_all exact rfl) k9t hst hot hat ?_)
        intro wz kz hXz hzz
        go_wp2_with (fail)
        refine bodyPost_ret (v := .tuple #[.bool true, .agg ct]) (results_tmp_cell rfl _ _ b9 25 _ (0, 0) _ rfl kz Try.underlying25 rfl hst rfl) rfl ⟨by rw [hr, HCT.out]; rfl, ?_⟩
        exact (hVq.trans hUt).trans' hXz (fun i hm hi => by simp at hm; omega)
      · have hr : R = s := by have := HR.out; simpa using this
        have HQ : Hid (∀ W', Upd [] wq W' → ∃ t fr, W'.heap[b5]? = some (.cells cs t fr)) := fun W' hW => ⟨_, _, hW.heap k5q (by simp)⟩
        go_upto_region 3 with (fail)
        refine wp_region_quiet_tail 2 (Upd [] wq) (by kernel_rfl) (by kernel_rfl) (Upd.refl _ _).drew ?_
        simp only [List.take_succ_cons, List.take_zero, List.drop_succ_cons, List.drop_zero]
        refine wpQuiet_valK rfl (quiet_load_row 25 _ rfl b5 rfl _ HQ.out Try.underlying25 rfl hss) (fun K hK => ?_)
        go_simp
        refine hK _ ?_
        clear hK K
        refine wpQuiet_step (fun K hK => ?_)
        go_simp
        first
          | (refine ⟨_, fun _ _ => rfl, hK _ ?_⟩; clear hK K)
          | (refine hK _ ?_; clear hK K)
        refine wpQuiet_nil ?_
        intro wt hUt
        have k9t := hUt.heap k9q (by simp)
        go_wp2_with (with_reducible refine arm_store (by with_unfolding_all exact rfl) (by with_unfolding_all exact rfl) k9t hss hos has ?_)
        intro wz kz hXz hzz
        go_wp2_with (fail)
        refine bodyPost_ret (v := .tuple #[.bool true, .agg cs]) (results_tmp_cell rfl _ _ b9 25 _ (0, 0) _ rfl kz Try.underlying25 rfl hss rfl) rfl ⟨by rw [hr, HCS.out]; rfl, ?_⟩
        exact (hVq.trans hUt).trans' hXz (fun i hm hi => by simp at hm; omega)
end Go.Proofs.Ytjoliagnhmfdiaa
