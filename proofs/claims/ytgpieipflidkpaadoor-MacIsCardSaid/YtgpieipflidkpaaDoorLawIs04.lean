/-
  The law MacIs: the keyed hashes are just the two hashes over the key's frame.
-/
import Derived.Test.YtgpieipflidkpaaDoorFramed04
namespace Go.Proofs.YtgpieipflidkpaaDoor
open Go Go.RowKit Go.Proofs
theorem quiet_build0 {P : Program} {C : World → Prop} {a : Act} {dst : Option Tmp} {ty type : TypeId} {pos : String} {after : Array Edge} {gd : Option (Nat × Bool)} {cs : Array Value} (hf : P.built ty [] = some cs) :
    ∀ w, C w → Oper.quietAt P ⟨dst, .build ty #[], type, pos, after, gd⟩ a C w (.agg cs) := by
  intro w hw
  unfold Oper.quietAt execOp
  simp only [List.map_toArray, List.map_nil, Sem.run_bind, run_build (P := P) w ty #[] cs hf, Result.andThen_ok, Sem.run_pure]
  exact ⟨rfl, rfl⟩
set_option maxRecDepth 100000 in
set_option maxHeartbeats 6400000 in
theorem law_is04 (w : World) (kv mv : Value) (key text : List (BitVec 8)) (hk : RdB w kv key) (hm : RdB w mv text) (hg : Gl256 w) (hf : GlFirst256 w) (hg5 : Gl512 w) (hf5 : GlFirst512 w) :
    Calls Tryd.prog 6 #[kv, mv] w fun x w' => x = .returned (.bool true) ∧ Upd [] w w' := by
  obtain ⟨cN, hN, hNe, hNn⟩ := nilMac w hg hf
  have hgd := guard_h32
  have hgd5 := guard_w64
  obtain ⟨cz, hcz⟩ : ∃ c, zrow8 32 = c := ⟨_, rfl⟩
  have hbz := built_hash
  rw [hcz] at hNe hNn hbz
  have HN := Lib.hid hN
  have HBZ := Lib.hid hbz
  clear hN hbz hcz
  obtain ⟨A1, c1, e1, hc1, hc1'⟩ := hk.isSlice
  obtain ⟨A2, c2, e2, hc2, hc2'⟩ := hm.isSlice
  by_cases hbad : key.length > 2048 ∨ text.length > 2048
  · rw [e1, e2]
    obtain ⟨n, hn⟩ : ∃ n, key.length = n := ⟨_, rfl⟩
    obtain ⟨m, hm'⟩ : ∃ m, text.length = m := ⟨_, rfl⟩
    rw [hn, hm'] at hbad ⊢
    clear hk hm hg hf hg5 hf5 e1 e2 hn hm' hc1 hc2
    by_cases c1 : n > 2048
    · clear hbad
      go_enter Tryd.func6, Tryd.ntmps6
      go_wp2_with (fail)
      go_ret
      exact ⟨rfl, Upd.refl _ w⟩
    · have c2 : m > 2048 := by omega
      clear hbad
      go_enter Tryd.func6, Tryd.ntmps6
      go_wp2_with (fail)
      go_ret
      exact ⟨rfl, Upd.refl _ w⟩
  have p1 : key.length ≤ 2048 := by omega
  have p2 : text.length ≤ 2048 := by omega
  clear hbad
  have HG := Lib.hid hg
  have HF := Lib.hid hf
  have HG5 := Lib.hid hg5
  have HF5 := Lib.hid hf5
  obtain ⟨k256, hk256⟩ : ∃ k, (if key.length ≤ 64 then key else sha256 key) = k := ⟨_, rfl⟩
  obtain ⟨I256, hI256⟩ : ∃ k, sha256 (frameOf k256 64 0x36 ++ text) = k := ⟨_, rfl⟩
  obtain ⟨W256, hW256⟩ : ∃ k, hmac256 key text = k := ⟨_, rfl⟩
  have hkl256 : k256.length ≤ 64 := by rw [← hk256]; split; assumption; rw [sha256_length]; omega
  have hIl256 : I256.length = 32 := by rw [← hI256]; exact sha256_length _
  have hWl256 : W256.length = 32 := by rw [← hW256]; exact hmac256_length _ _
  have hWe256 : sha256 (frameOf k256 64 0x5c ++ I256) = W256 := by rw [← hW256, hmac256, hk256, hI256]
  have S256 : Hid (∀ W, Upd [] w W → Calls Tryd.prog 13 #[kv] W fun e w' => e = .returned (.agg ((sha256 key).map U8).toArray) ∧ Upd [] W w') := fun W hW =>
    sum256 W kv key (hk.upd0 hW) (by omega) (HG.out.upd hW (by simp)) (HF.out.upd hW (by simp))
  have F2561 : Hid (∀ W v, Upd [] w W → RdB W v k256 → Calls Tryd.prog 14 #[v, .int .i64 64, .int .u8 54, mv] W fun e w' => ∃ v, e = .returned v ∧ OwnB w' W.heap.size v (frameOf k256 64 0x36 ++ text) ∧ Upd [] W w') := fun W v hW hr =>
    framed_ W v mv k256 text 64 0x36 hr (hm.upd0 hW) hkl256 (by omega) (by omega)
  have F2562 : Hid (∀ W v u, RdB W v k256 → RdB W u I256 → Calls Tryd.prog 14 #[v, .int .i64 64, .int .u8 92, u] W fun e w' => ∃ v, e = .returned v ∧ OwnB w' W.heap.size v (frameOf k256 64 0x5c ++ I256) ∧ Upd [] W w') := fun W v u hr hu =>
    framed_ W v u k256 I256 64 0x5c hr hu hkl256 (by omega) (by omega)
  have S2561 : Hid (∀ W v, Upd [] w W → RdB W v (frameOf k256 64 0x36 ++ text) → Calls Tryd.prog 13 #[v] W fun e w' => e = .returned (.agg (I256.map U8).toArray) ∧ Upd [] W w') := fun W v hW hr => by
    have := sum256 W v _ hr (by rw [List.length_append, frameOf_length _ _ _ hkl256]; omega) (HG.out.upd hW (by simp)) (HF.out.upd hW (by simp))
    rwa [hI256] at this
  have S2562 : Hid (∀ W v, Upd [] w W → RdB W v (frameOf k256 64 0x5c ++ I256) → Calls Tryd.prog 13 #[v] W fun e w' => e = .returned (.agg (W256.map U8).toArray) ∧ Upd [] W w') := fun W v hW hr => by
    have := sum256 W v _ hr (by rw [List.length_append, frameOf_length _ _ _ hkl256, hIl256]; omega) (HG.out.upd hW (by simp)) (HF.out.upd hW (by simp))
    rwa [hWe256] at this
  have M256 : Hid (∀ W, Upd [] w W → Calls Tryd.prog 9 #[kv, mv] W fun e w' => e = .returned (.agg (W256.map U8).toArray) ∧ Upd [] W w') := fun W hW => by
    have := mac256 W kv mv key text (hk.upd0 hW) (hm.upd0 hW) (by omega) (by omega) (HG.out.upd hW (by simp)) (HF.out.upd hW (by simp))
    rwa [hW256] at this
  have X256 : Hid (∀ W, Upd [] w W → Calls Tryd.prog 15 #[kv, mv] W fun e w' => e = .returned (.agg (W256.map U8).toArray) ∧ Upd [] W w') := fun W hW => by
    have := extract_ W kv mv key text (hk.upd0 hW) (hm.upd0 hW) (by omega) (by omega) (HG.out.upd hW (by simp)) (HF.out.upd hW (by simp))
    rwa [hW256] at this
  have hkll256 : ((sha256 key)).length = 32 := sha256_length _
  have hs0256 := szrow256 hkll256
  have ho0256 := sameZ256 hkll256
  have ha0256 : (((sha256 key).map U8).toArray).all (·.oneCell') = true := by simp
  have hs1256 := szrow256 hIl256
  have ho1256 := sameZ256 hIl256
  have ha1256 : ((I256.map U8).toArray).all (·.oneCell') = true := by simp
  have hs2256 := szrow256 hWl256
  have ho2256 := sameZ256 hWl256
  have ha2256 : ((W256.map U8).toArray).all (·.oneCell') = true := by simp
  have hq256 : ∀ w', (binOp .neq 23 (.agg (W256.map U8).toArray) (.agg (W256.map U8).toArray)).run Tryd.prog w' = .ok (.bool false) w' := fun w' => by
    rw [neq_h32 _ _ hWl256 hWl256]; simp
  have R0256 : Hid (¬ key.length ≤ 64 → ∀ W b T fr, W.heap[b]? = some (.cells ((sha256 key).map U8).toArray T fr) → RdB W (.slice (some ⟨b, 0, none⟩) 32 32) k256) := fun h W b T fr hb => by
    rw [← hk256, if_neg h]; exact rd_new256 hb (sha256_length _)
  have R1256 : Hid (∀ W b T fr, W.heap[b]? = some (.cells (I256.map U8).toArray T fr) → RdB W (.slice (some ⟨b, 0, none⟩) 32 32) I256) := fun W b T fr hb => rd_new256 hb hIl256
  have K256 : Hid (key.length ≤ 64 → ∀ W, Upd [] w W → RdB W kv k256) := fun h W hW => by
    rw [← hk256, if_pos h]; exact hk.upd0 hW
  obtain ⟨c0256, hc0256⟩ : ∃ c, ((sha256 key).map U8).toArray = c := ⟨_, rfl⟩
  obtain ⟨c1256, hc1256⟩ : ∃ c, (I256.map U8).toArray = c := ⟨_, rfl⟩
  obtain ⟨c2256, hc2256⟩ : ∃ c, (W256.map U8).toArray = c := ⟨_, rfl⟩
  rw [hc0256] at S256 hs0256 ho0256 ha0256 R0256
  rw [hc1256] at S2561 hs1256 ho1256 ha1256 R1256
  rw [hc2256] at S2562 hs2256 ho2256 ha2256 hq256 M256 X256
  clear hk256 hI256 hW256 hkl256 hIl256 hWl256 hWe256 hkll256 hc0256 hc1256 hc2256
  obtain ⟨k512, hk512⟩ : ∃ k, (if key.length ≤ 128 then key else sha512 key) = k := ⟨_, rfl⟩
  obtain ⟨I512, hI512⟩ : ∃ k, sha512 (frameOf k512 128 0x36 ++ text) = k := ⟨_, rfl⟩
  obtain ⟨W512, hW512⟩ : ∃ k, hmac512 key text = k := ⟨_, rfl⟩
  have hkl512 : k512.length ≤ 128 := by rw [← hk512]; split; assumption; rw [sha512_length]; omega
  have hIl512 : I512.length = 64 := by rw [← hI512]; exact sha512_length _
  have hWl512 : W512.length = 64 := by rw [← hW512]; exact hmac512_length _ _
  have hWe512 : sha512 (frameOf k512 128 0x5c ++ I512) = W512 := by rw [← hW512, hmac512, hk512, hI512]
  have S512 : Hid (∀ W, Upd [] w W → Calls Tryd.prog 16 #[kv] W fun e w' => e = .returned (.agg ((sha512 key).map U8).toArray) ∧ Upd [] W w') := fun W hW =>
    sum512 W kv key (hk.upd0 hW) (by omega) (HG5.out.upd hW (by simp)) (HF5.out.upd hW (by simp))
  have F5121 : Hid (∀ W v, Upd [] w W → RdB W v k512 → Calls Tryd.prog 14 #[v, .int .i64 128, .int .u8 54, mv] W fun e w' => ∃ v, e = .returned v ∧ OwnB w' W.heap.size v (frameOf k512 128 0x36 ++ text) ∧ Upd [] W w') := fun W v hW hr =>
    framed_ W v mv k512 text 128 0x36 hr (hm.upd0 hW) hkl512 (by omega) (by omega)
  have F5122 : Hid (∀ W v u, RdB W v k512 → RdB W u I512 → Calls Tryd.prog 14 #[v, .int .i64 128, .int .u8 92, u] W fun e w' => ∃ v, e = .returned v ∧ OwnB w' W.heap.size v (frameOf k512 128 0x5c ++ I512) ∧ Upd [] W w') := fun W v u hr hu =>
    framed_ W v u k512 I512 128 0x5c hr hu hkl512 (by omega) (by omega)
  have S5121 : Hid (∀ W v, Upd [] w W → RdB W v (frameOf k512 128 0x36 ++ text) → Calls Tryd.prog 16 #[v] W fun e w' => e = .returned (.agg (I512.map U8).toArray) ∧ Upd [] W w') := fun W v hW hr => by
    have := sum512 W v _ hr (by rw [List.length_append, frameOf_length _ _ _ hkl512]; omega) (HG5.out.upd hW (by simp)) (HF5.out.upd hW (by simp))
    rwa [hI512] at this
  have S5122 : Hid (∀ W v, Upd [] w W → RdB W v (frameOf k512 128 0x5c ++ I512) → Calls Tryd.prog 16 #[v] W fun e w' => e = .returned (.agg (W512.map U8).toArray) ∧ Upd [] W w') := fun W v hW hr => by
    have := sum512 W v _ hr (by rw [List.length_append, frameOf_length _ _ _ hkl512, hIl512]; omega) (HG5.out.upd hW (by simp)) (HF5.out.upd hW (by simp))
    rwa [hWe512] at this
  have M512 : Hid (∀ W, Upd [] w W → Calls Tryd.prog 12 #[kv, mv] W fun e w' => e = .returned (.agg (W512.map U8).toArray) ∧ Upd [] W w') := fun W hW => by
    have := mac512 W kv mv key text (hk.upd0 hW) (hm.upd0 hW) (by omega) (by omega) (HG5.out.upd hW (by simp)) (HF5.out.upd hW (by simp))
    rwa [hW512] at this
  have hkll512 : ((sha512 key)).length = 64 := sha512_length _
  have hs0512 := szrow512 hkll512
  have ho0512 := sameZ512 hkll512
  have ha0512 : (((sha512 key).map U8).toArray).all (·.oneCell') = true := by simp
  have hs1512 := szrow512 hIl512
  have ho1512 := sameZ512 hIl512
  have ha1512 : ((I512.map U8).toArray).all (·.oneCell') = true := by simp
  have hs2512 := szrow512 hWl512
  have ho2512 := sameZ512 hWl512
  have ha2512 : ((W512.map U8).toArray).all (·.oneCell') = true := by simp
  have hq512 : ∀ w', (binOp .eql 36 (.agg (W512.map U8).toArray) (.agg (W512.map U8).toArray)).run Tryd.prog w' = .ok (.bool true) w' := fun w' => by
    rw [eql_w64 _ _ hWl512 hWl512]; simp
  have R0512 : Hid (¬ key.length ≤ 128 → ∀ W b T fr, W.heap[b]? = some (.cells ((sha512 key).map U8).toArray T fr) → RdB W (.slice (some ⟨b, 0, none⟩) 64 64) k512) := fun h W b T fr hb => by
    rw [← hk512, if_neg h]; exact rd_new512 hb (sha512_length _)
  have R1512 : Hid (∀ W b T fr, W.heap[b]? = some (.cells (I512.map U8).toArray T fr) → RdB W (.slice (some ⟨b, 0, none⟩) 64 64) I512) := fun W b T fr hb => rd_new512 hb hIl512
  have K512 : Hid (key.length ≤ 128 → ∀ W, Upd [] w W → RdB W kv k512) := fun h W hW => by
    rw [← hk512, if_pos h]; exact hk.upd0 hW
  obtain ⟨c0512, hc0512⟩ : ∃ c, ((sha512 key).map U8).toArray = c := ⟨_, rfl⟩
  obtain ⟨c1512, hc1512⟩ : ∃ c, (I512.map U8).toArray = c := ⟨_, rfl⟩
  obtain ⟨c2512, hc2512⟩ : ∃ c, (W512.map U8).toArray = c := ⟨_, rfl⟩
  rw [hc0512] at S512 hs0512 ho0512 ha0512 R0512
  rw [hc1512] at S5121 hs1512 ho1512 ha1512 R1512
  rw [hc2512] at S5122 hs2512 ho2512 ha2512 hq512 M512
  clear hk512 hI512 hW512 hkl512 hIl512 hWl512 hWe512 hkll512 hc0512 hc1512 hc2512
  obtain ⟨n, hn⟩ : ∃ n, key.length = n := ⟨_, rfl⟩
  obtain ⟨m, hm'⟩ : ∃ m, text.length = m := ⟨_, rfl⟩
  rw [hn] at e1 p1 R0256 R0512 K256 K512
  rw [hm'] at e2 p2
  rw [e1] at S256 M256 X256 S512 M512 K256 K512
  rw [e2] at F2561 M256 X256 F5121 M512
  rw [e1, e2]
  have d1 : decide ((2048 : Int) < (n : Int)) = false := by simp; omega
  have d2 : decide ((2048 : Int) < (m : Int)) = false := by simp; omega
  clear hk hm hg hf hg5 hf5 e1 e2 hn hm' hc1 hc2 hc1' hc2'
  by_cases l1 : n ≤ 64
  · have l1' : decide ((64 : Int) < (n : Int)) = false := by simp; omega
    have l2' : decide ((128 : Int) < (n : Int)) = false := by simp; omega
    go_enter Tryd.func6, Tryd.ntmps6
    go_upto_region 4 with (fail)
    go_wp2_with (first
          | (with_reducible refine arm_load (by with_unfolding_all exact rfl) (by assumption) Tryd.underlying23 (by with_unfolding_all exact rfl) (by assumption) ?_)
          | (with_reducible refine arm_load_g (by with_unfolding_all exact rfl) (by with_unfolding_all exact rfl) (by assumption) Tryd.underlying23 (by with_unfolding_all exact rfl) (by assumption) ?_))
    with_reducible refine (F2561.out _ _ (Upd.refl [] w) (K256.out (by omega) _ (Upd.refl [] w))).mono ?_
    rintro e w1 ⟨v1, rfl, hN1, hU1⟩
    have hV1 : Upd [] w w1 := hU1
    clear hU1
    have r1_f256 := hN1.rd
    clear hN1
    go_wp2_with (first
          | (with_reducible refine arm_load (by with_unfolding_all exact rfl) (by assumption) Tryd.underlying23 (by with_unfolding_all exact rfl) (by assumption) ?_)
          | (with_reducible refine arm_load_g (by with_unfolding_all exact rfl) (by with_unfolding_all exact rfl) (by assumption) Tryd.underlying23 (by with_unfolding_all exact rfl) (by assumption) ?_))
    with_reducible refine (S2561.out _ _ hV1 r1_f256).mono ?_
    rintro e w2 ⟨rfl, hU2⟩
    have r2_f256 := r1_f256.upd0 hU2
    have hV2 := hV1.trans hU2
    clear hU2 hV1 r1_f256
    go_wp2_with (first
          | (with_reducible refine arm_load (by with_unfolding_all exact rfl) (by assumption) Tryd.underlying23 (by with_unfolding_all exact rfl) (by assumption) ?_)
          | (with_reducible refine arm_load_g (by with_unfolding_all exact rfl) (by with_unfolding_all exact rfl) (by assumption) Tryd.underlying23 (by with_unfolding_all exact rfl) (by assumption) ?_)
          | (with_reducible refine arm_alloc (zero256 _) ?_))
    intro b3 w3 hb3 hc3 hU3 hz3
    clear hz3
    change w3.heap[b3]? = some (.cells (zrow8 32) 23 (0, 0)) at hc3
    go_wp2_with (first
          | (with_reducible refine arm_load (by with_unfolding_all exact rfl) (by assumption) Tryd.underlying23 (by with_unfolding_all exact rfl) (by assumption) ?_)
          | (with_reducible refine arm_load_g (by with_unfolding_all exact rfl) (by with_unfolding_all exact rfl) (by assumption) Tryd.underlying23 (by with_unfolding_all exact rfl) (by assumption) ?_)
          | (with_reducible refine arm_store (by with_unfolding_all exact rfl) (by with_unfolding_all exact rfl) hc3 hs1256 ho1256 ha1256 ?_))
    intro w4 h4_I256 hX4 hz4
    have hU4 := hU3.fresh hb3 hX4
    clear hU3 hc3 hX4 hz4 hb3
    have r4_f256 := r2_f256.upd0 hU4
    have hV4 := hV2.trans hU4
    clear hU4 hV2 r2_f256
    go_wp2_with (first
          | (with_reducible refine arm_load (by with_unfolding_all exact rfl) (by assumption) Tryd.underlying23 (by with_unfolding_all exact rfl) (by assumption) ?_)
          | (with_reducible refine arm_load_g (by with_unfolding_all exact rfl) (by with_unfolding_all exact rfl) (by assumption) Tryd.underlying23 (by with_unfolding_all exact rfl) (by assumption) ?_))
    with_reducible refine (F2562.out _ _ _ (K256.out (by omega) _ hV4) (R1256.out _ _ _ _ h4_I256)).mono ?_
    rintro e w5 ⟨v5, rfl, hN5, hU5⟩
    have h5_I256 := hU5.heap h4_I256 (by simp)
    have r5_f256 := r4_f256.upd0 hU5
    have hV5 := hV4.trans hU5
    clear hU5 hV4 h4_I256 r4_f256
    have r5_e256 := hN5.rd
    clear hN5
    go_wp2_with (first
          | (with_reducible refine arm_load (by with_unfolding_all exact rfl) (by assumption) Tryd.underlying23 (by with_unfolding_all exact rfl) (by assumption) ?_)
          | (with_reducible refine arm_load_g (by with_unfolding_all exact rfl) (by with_unfolding_all exact rfl) (by assumption) Tryd.underlying23 (by with_unfolding_all exact rfl) (by assumption) ?_))
    with_reducible refine (S2562.out _ _ hV5 r5_e256).mono ?_
    rintro e w6 ⟨rfl, hU6⟩
    have h6_I256 := hU6.heap h5_I256 (by simp)
    have r6_f256 := r5_f256.upd0 hU6
    have r6_e256 := r5_e256.upd0 hU6
    have hV6 := hV5.trans hU6
    clear hU6 hV5 h5_I256 r5_f256 r5_e256
    go_wp2_with (first
          | (with_reducible refine arm_load (by with_unfolding_all exact rfl) (by assumption) Tryd.underlying23 (by with_unfolding_all exact rfl) (by assumption) ?_)
          | (with_reducible refine arm_load_g (by with_unfolding_all exact rfl) (by with_unfolding_all exact rfl) (by assumption) Tryd.underlying23 (by with_unfolding_all exact rfl) (by assumption) ?_)
          | (with_reducible refine arm_alloc (zero256 _) ?_))
    intro b7 w7 hb7 hc7 hU7 hz7
    clear hz7
    change w7.heap[b7]? = some (.cells (zrow8 32) 23 (0, 0)) at hc7
    go_wp2_with (first
          | (with_reducible refine arm_load (by with_unfolding_all exact rfl) (by assumption) Tryd.underlying23 (by with_unfolding_all exact rfl) (by assumption) ?_)
          | (with_reducible refine arm_load_g (by with_unfolding_all exact rfl) (by with_unfolding_all exact rfl) (by assumption) Tryd.underlying23 (by with_unfolding_all exact rfl) (by assumption) ?_)
          | (with_reducible refine arm_store (by with_unfolding_all exact rfl) (by with_unfolding_all exact rfl) hc7 hs2256 ho2256 ha2256 ?_))
    intro w8 h8_W256 hX8 hz8
    have hU8 := hU7.fresh hb7 hX8
    clear hU7 hc7 hX8 hz8 hb7
    have h8_I256 := hU8.heap h6_I256 (by simp)
    have r8_f256 := r6_f256.upd0 hU8
    have r8_e256 := r6_e256.upd0 hU8
    have hV8 := hV6.trans hU8
    clear hU8 hV6 h6_I256 r6_f256 r6_e256
    go_upto_region 9 with (first
          | (with_reducible refine arm_load (by with_unfolding_all exact rfl) (by assumption) Tryd.underlying23 (by with_unfolding_all exact rfl) (by assumption) ?_)
          | (with_reducible refine arm_load_g (by with_unfolding_all exact rfl) (by with_unfolding_all exact rfl) (by assumption) Tryd.underlying23 (by with_unfolding_all exact rfl) (by assumption) ?_))
    have hQ8 : Hid (∀ w', Upd [] w8 w' → ∃ t fr, w'.heap[b7]? = some (.cells c2256 t fr)) := fun w' h => ⟨_, _, h.heap h8_W256 (by simp)⟩
    refine wp_region_quiet_all (Upd [] w8) (by kernel_rfl) (by kernel_rfl) (Upd.refl _ _).drew ?_
    repeat (first
      | (refine wpQuiet_val rfl (quiet_load_row 23 _ rfl b7 rfl _ hQ8.out Tryd.underlying23 rfl hs2256) ?_)
      | (refine wpQuiet_val rfl (quiet_build0 HBZ.out) ?_)
      | (refine wpQuiet_step (fun K hK => ?_)
         go_simp
         first
           | (refine ⟨_, fun _ _ => rfl, hK _ ?_⟩; clear hK K)
           | ((with_reducible refine ⟨_, fun w2 hw2 => (M256.out w2 (hV8.trans hw2)).mono (fun e w' h => ⟨h.1, hw2.trans h.2⟩), hK _ ?_⟩); clear hK K)
           | ((with_reducible refine ⟨_, fun w2 hw2 => (X256.out w2 (hV8.trans hw2)).mono (fun e w' h => ⟨h.1, hw2.trans h.2⟩), hK _ ?_⟩); clear hK K)
           | ((with_reducible refine ⟨_, fun w2 hw2 => (HN.out.at w2 (hV8.trans hw2)).mono (fun e w' h => ⟨h.1, hw2.trans h.2⟩), hK _ ?_⟩); clear hK K)
           | (refine hK _ ?_; clear hK K)))
    refine wpQuiet_nil ?_
    intro w9 hU9
    clear hQ8
    have h9_I256 := hU9.heap h8_I256 (by simp)
    have h9_W256 := hU9.heap h8_W256 (by simp)
    have r9_f256 := r8_f256.upd0 hU9
    have r9_e256 := r8_e256.upd0 hU9
    have hV9 := hV8.trans hU9
    clear hU9 hV8 h8_I256 h8_W256 r8_f256 r8_e256
    go_upto_region 12 with (fail)
    go_wp2_with (first
          | (with_reducible refine arm_load (by with_unfolding_all exact rfl) (by assumption) Tryd.underlying23 (by with_unfolding_all exact rfl) (by assumption) ?_)
          | (with_reducible refine arm_load_g (by with_unfolding_all exact rfl) (by with_unfolding_all exact rfl) (by assumption) Tryd.underlying23 (by with_unfolding_all exact rfl) (by assumption) ?_))
    with_reducible refine (F5121.out _ _ hV9 (K512.out (by omega) _ hV9)).mono ?_
    rintro e w10 ⟨v10, rfl, hN10, hU10⟩
    have h10_I256 := hU10.heap h9_I256 (by simp)
    have h10_W256 := hU10.heap h9_W256 (by simp)
    have r10_f256 := r9_f256.upd0 hU10
    have r10_e256 := r9_e256.upd0 hU10
    have hV10 := hV9.trans hU10
    clear hU10 hV9 h9_I256 h9_W256 r9_f256 r9_e256
    have r10_f512 := hN10.rd
    clear hN10
    go_wp2_with (first
          | (with_reducible refine arm_load (by with_unfolding_all exact rfl) (by assumption) Tryd.underlying23 (by with_unfolding_all exact rfl) (by assumption) ?_)
          | (with_reducible refine arm_load_g (by with_unfolding_all exact rfl) (by with_unfolding_all exact rfl) (by assumption) Tryd.underlying23 (by with_unfolding_all exact rfl) (by assumption) ?_))
    with_reducible refine (S5121.out _ _ hV10 r10_f512).mono ?_
    rintro e w11 ⟨rfl, hU11⟩
    have h11_I256 := hU11.heap h10_I256 (by simp)
    have h11_W256 := hU11.heap h10_W256 (by simp)
    have r11_f256 := r10_f256.upd0 hU11
    have r11_e256 := r10_e256.upd0 hU11
    have r11_f512 := r10_f512.upd0 hU11
    have hV11 := hV10.trans hU11
    clear hU11 hV10 h10_I256 h10_W256 r10_f256 r10_e256 r10_f512
    go_wp2_with (first
          | (with_reducible refine arm_load (by with_unfolding_all exact rfl) (by assumption) Tryd.underlying23 (by with_unfolding_all exact rfl) (by assumption) ?_)
          | (with_reducible refine arm_load_g (by with_unfolding_all exact rfl) (by with_unfolding_all exact rfl) (by assumption) Tryd.underlying23 (by with_unfolding_all exact rfl) (by assumption) ?_)
          | (with_reducible refine arm_alloc (zero512 _) ?_))
    intro b12 w12 hb12 hc12 hU12 hz12
    clear hz12
    change w12.heap[b12]? = some (.cells (zrow8 64) 36 (0, 0)) at hc12
    go_wp2_with (first
          | (with_reducible refine arm_load (by with_unfolding_all exact rfl) (by assumption) Tryd.underlying23 (by with_unfolding_all exact rfl) (by assumption) ?_)
          | (with_reducible refine arm_load_g (by with_unfolding_all exact rfl) (by with_unfolding_all exact rfl) (by assumption) Tryd.underlying23 (by with_unfolding_all exact rfl) (by assumption) ?_)
          | (with_reducible refine arm_store (by with_unfolding_all exact rfl) (by with_unfolding_all exact rfl) hc12 hs1512 ho1512 ha1512 ?_))
    intro w13 h13_I512 hX13 hz13
    have hU13 := hU12.fresh hb12 hX13
    clear hU12 hc12 hX13 hz13 hb12
    have h13_I256 := hU13.heap h11_I256 (by simp)
    have h13_W256 := hU13.heap h11_W256 (by simp)
    have r13_f256 := r11_f256.upd0 hU13
    have r13_e256 := r11_e256.upd0 hU13
    have r13_f512 := r11_f512.upd0 hU13
    have hV13 := hV11.trans hU13
    clear hU13 hV11 h11_I256 h11_W256 r11_f256 r11_e256 r11_f512
    go_upto_region 16 with (fail)
    refine wp_region_orders [0, 1, 3, 4] (.step 2 (.step 5 (.step 6 (.step 7 (.step 8 .none .none) .none) .none) .none) .none) (Upd [] w13) (by kernel_rfl) (by kernel_rfl) ((Upd.refl _ _).drew) ?_
    refine takeO_cons _ _ rfl rfl (yields_move rfl) ?_
    refine takeO_cons _ _ rfl rfl (yields_move rfl) ?_
    refine takeO_cons _ _ rfl rfl (yields_move rfl) ?_
    refine takeO_cons _ (.slice (some ⟨b12, 0, none⟩) 64 64) rfl rfl (fun w _ => by kernel_rfl) ?_
    refine takeO_nil (by simp [Ord.first]) ?_
    refine ordP_step _ (by simp only [List.getElem?_toArray, List.getElem?_cons_succ, List.getElem?_cons_zero]; rfl) ?_ ordP_none
    go_wp2_with fail
    with_reducible refine (M512.out _ (hV13.trans (Upd.refl [] w13).drew)).mono ?_
    rintro e wx1 ⟨rfl, hUx1⟩
    have hTx1 := (Upd.refl [] w13).drew.trans hUx1
    go_wp2_with fail
    refine ord_more (by simp [Ord.first]) (hTx1) ?_
    refine ordP_step _ (by simp only [List.getElem?_toArray, List.getElem?_cons_succ, List.getElem?_cons_zero]; rfl) ?_ ordP_none
    go_wp2_with fail
    with_reducible refine (F5122.out _ _ _ (K512.out (by omega) _ (hV13.trans hTx1)) (R1512.out _ _ _ _ ((hTx1).heap h13_I512 (by simp)))).mono ?_
    rintro e wx2 ⟨vx2, rfl, hNx2, hUx2⟩
    have hTx2 := hTx1.trans hUx2
    have hMx2 := hNx2.rd
    go_wp2_with fail
    refine ord_more (by simp [Ord.first]) (hTx2) ?_
    refine ordP_step _ (by simp only [List.getElem?_toArray, List.getElem?_cons_succ, List.getElem?_cons_zero]; rfl) ?_ ordP_none
    go_wp2_with fail
    with_reducible refine (S5122.out _ _ (hV13.trans hTx2) hMx2).mono ?_
    rintro e wx3 ⟨rfl, hUx3⟩
    have hTx3 := hTx2.trans hUx3
    have hx3_fr := hMx2.upd0 hUx3
    go_wp2_with fail
    refine ord_more (by simp [Ord.first]) (hTx3) ?_
    refine ordP_step _ (by simp only [List.getElem?_toArray, List.getElem?_cons_succ, List.getElem?_cons_zero]; rfl) ?_ ordP_none
    go_wp2_with fail
    refine ord_more (by simp [Ord.first]) (hTx3) ?_
    refine ordP_step _ (by simp only [List.getElem?_toArray, List.getElem?_cons_succ, List.getElem?_cons_zero]; rfl) ?_ ordP_none
    go_wp2_with fail
    refine ord_last (hTx3) ?_
    show Exit.then _ _ Exit.normal _ _
    go_wp2_with fail
    go_ret
    exact ⟨rfl, hV13.trans hTx3⟩
  · have l1' : decide ((64 : Int) < (n : Int)) = true := by simp; omega
    by_cases l2 : n ≤ 128
    · have l2' : decide ((128 : Int) < (n : Int)) = false := by simp; omega
      go_enter Tryd.func6, Tryd.ntmps6
      go_upto_region 4 with (fail)
      go_wp2_with (first
              | (with_reducible refine arm_load (by with_unfolding_all exact rfl) (by assumption) Tryd.underlying23 (by with_unfolding_all exact rfl) (by assumption) ?_)
              | (with_reducible refine arm_load_g (by with_unfolding_all exact rfl) (by with_unfolding_all exact rfl) (by assumption) Tryd.underlying23 (by with_unfolding_all exact rfl) (by assumption) ?_))
      with_reducible refine (S256.out _ (Upd.refl [] w)).mono ?_
      rintro e w1 ⟨rfl, hU1⟩
      have hV1 : Upd [] w w1 := hU1
      clear hU1
      go_wp2_with (first
              | (with_reducible refine arm_load (by with_unfolding_all exact rfl) (by assumption) Tryd.underlying23 (by with_unfolding_all exact rfl) (by assumption) ?_)
              | (with_reducible refine arm_load_g (by with_unfolding_all exact rfl) (by with_unfolding_all exact rfl) (by assumption) Tryd.underlying23 (by with_unfolding_all exact rfl) (by assumption) ?_)
              | (with_reducible refine arm_alloc (zero256 _) ?_))
      intro b2 w2 hb2 hc2 hU2 hz2
      clear hz2
      change w2.heap[b2]? = some (.cells (zrow8 32) 23 (0, 0)) at hc2
      go_wp2_with (first
              | (with_reducible refine arm_load (by with_unfolding_all exact rfl) (by assumption) Tryd.underlying23 (by with_unfolding_all exact rfl) (by assumption) ?_)
              | (with_reducible refine arm_load_g (by with_unfolding_all exact rfl) (by with_unfolding_all exact rfl) (by assumption) Tryd.underlying23 (by with_unfolding_all exact rfl) (by assumption) ?_)
              | (with_reducible refine arm_store (by with_unfolding_all exact rfl) (by with_unfolding_all exact rfl) hc2 hs0256 ho0256 ha0256 ?_))
      intro w3 h3_K256 hX3 hz3
      have hU3 := hU2.fresh hb2 hX3
      clear hU2 hc2 hX3 hz3 hb2
      have hV3 := hV1.trans hU3
      clear hU3 hV1
      go_wp2_with (first
              | (with_reducible refine arm_load (by with_unfolding_all exact rfl) (by assumption) Tryd.underlying23 (by with_unfolding_all exact rfl) (by assumption) ?_)
              | (with_reducible refine arm_load_g (by with_unfolding_all exact rfl) (by with_unfolding_all exact rfl) (by assumption) Tryd.underlying23 (by with_unfolding_all exact rfl) (by assumption) ?_))
      with_reducible refine (F2561.out _ _ hV3 (R0256.out (by omega) _ _ _ _ h3_K256)).mono ?_
      rintro e w4 ⟨v4, rfl, hN4, hU4⟩
      have h4_K256 := hU4.heap h3_K256 (by simp)
      have hV4 := hV3.trans hU4
      clear hU4 hV3 h3_K256
      have r4_f256 := hN4.rd
      clear hN4
      go_wp2_with (first
              | (with_reducible refine arm_load (by with_unfolding_all exact rfl) (by assumption) Tryd.underlying23 (by with_unfolding_all exact rfl) (by assumption) ?_)
              | (with_reducible refine arm_load_g (by with_unfolding_all exact rfl) (by with_unfolding_all exact rfl) (by assumption) Tryd.underlying23 (by with_unfolding_all exact rfl) (by assumption) ?_))
      with_reducible refine (S2561.out _ _ hV4 r4_f256).mono ?_
      rintro e w5 ⟨rfl, hU5⟩
      have h5_K256 := hU5.heap h4_K256 (by simp)
      have r5_f256 := r4_f256.upd0 hU5
      have hV5 := hV4.trans hU5
      clear hU5 hV4 h4_K256 r4_f256
      go_wp2_with (first
              | (with_reducible refine arm_load (by with_unfolding_all exact rfl) (by assumption) Tryd.underlying23 (by with_unfolding_all exact rfl) (by assumption) ?_)
              | (with_reducible refine arm_load_g (by with_unfolding_all exact rfl) (by with_unfolding_all exact rfl) (by assumption) Tryd.underlying23 (by with_unfolding_all exact rfl) (by assumption) ?_)
              | (with_reducible refine arm_alloc (zero256 _) ?_))
      intro b6 w6 hb6 hc6 hU6 hz6
      clear hz6
      change w6.heap[b6]? = some (.cells (zrow8 32) 23 (0, 0)) at hc6
      go_wp2_with (first
              | (with_reducible refine arm_load (by with_unfolding_all exact rfl) (by assumption) Tryd.underlying23 (by with_unfolding_all exact rfl) (by assumption) ?_)
              | (with_reducible refine arm_load_g (by with_unfolding_all exact rfl) (by with_unfolding_all exact rfl) (by assumption) Tryd.underlying23 (by with_unfolding_all exact rfl) (by assumption) ?_)
              | (with_reducible refine arm_store (by with_unfolding_all exact rfl) (by with_unfolding_all exact rfl) hc6 hs1256 ho1256 ha1256 ?_))
      intro w7 h7_I256 hX7 hz7
      have hU7 := hU6.fresh hb6 hX7
      clear hU6 hc6 hX7 hz7 hb6
      have h7_K256 := hU7.heap h5_K256 (by simp)
      have r7_f256 := r5_f256.upd0 hU7
      have hV7 := hV5.trans hU7
      clear hU7 hV5 h5_K256 r5_f256
      go_wp2_with (first
              | (with_reducible refine arm_load (by with_unfolding_all exact rfl) (by assumption) Tryd.underlying23 (by with_unfolding_all exact rfl) (by assumption) ?_)
              | (with_reducible refine arm_load_g (by with_unfolding_all exact rfl) (by with_unfolding_all exact rfl) (by assumption) Tryd.underlying23 (by with_unfolding_all exact rfl) (by assumption) ?_))
      with_reducible refine (F2562.out _ _ _ (R0256.out (by omega) _ _ _ _ h7_K256) (R1256.out _ _ _ _ h7_I256)).mono ?_
      rintro e w8 ⟨v8, rfl, hN8, hU8⟩
      have h8_K256 := hU8.heap h7_K256 (by simp)
      have h8_I256 := hU8.heap h7_I256 (by simp)
      have r8_f256 := r7_f256.upd0 hU8
      have hV8 := hV7.trans hU8
      clear hU8 hV7 h7_K256 h7_I256 r7_f256
      have r8_e256 := hN8.rd
      clear hN8
      go_wp2_with (first
              | (with_reducible refine arm_load (by with_unfolding_all exact rfl) (by assumption) Tryd.underlying23 (by with_unfolding_all exact rfl) (by assumption) ?_)
              | (with_reducible refine arm_load_g (by with_unfolding_all exact rfl) (by with_unfolding_all exact rfl) (by assumption) Tryd.underlying23 (by with_unfolding_all exact rfl) (by assumption) ?_))
      with_reducible refine (S2562.out _ _ hV8 r8_e256).mono ?_
      rintro e w9 ⟨rfl, hU9⟩
      have h9_K256 := hU9.heap h8_K256 (by simp)
      have h9_I256 := hU9.heap h8_I256 (by simp)
      have r9_f256 := r8_f256.upd0 hU9
      have r9_e256 := r8_e256.upd0 hU9
      have hV9 := hV8.trans hU9
      clear hU9 hV8 h8_K256 h8_I256 r8_f256 r8_e256
      go_wp2_with (first
              | (with_reducible refine arm_load (by with_unfolding_all exact rfl) (by assumption) Tryd.underlying23 (by with_unfolding_all exact rfl) (by assumption) ?_)
              | (with_reducible refine arm_load_g (by with_unfolding_all exact rfl) (by with_unfolding_all exact rfl) (by assumption) Tryd.underlying23 (by with_unfolding_all exact rfl) (by assumption) ?_)
              | (with_reducible refine arm_alloc (zero256 _) ?_))
      intro b10 w10 hb10 hc10 hU10 hz10
      clear hz10
      change w10.heap[b10]? = some (.cells (zrow8 32) 23 (0, 0)) at hc10
      go_wp2_with (first
              | (with_reducible refine arm_load (by with_unfolding_all exact rfl) (by assumption) Tryd.underlying23 (by with_unfolding_all exact rfl) (by assumption) ?_)
              | (with_reducible refine arm_load_g (by with_unfolding_all exact rfl) (by with_unfolding_all exact rfl) (by assumption) Tryd.underlying23 (by with_unfolding_all exact rfl) (by assumption) ?_)
              | (with_reducible refine arm_store (by with_unfolding_all exact rfl) (by with_unfolding_all exact rfl) hc10 hs2256 ho2256 ha2256 ?_))
      intro w11 h11_W256 hX11 hz11
      have hU11 := hU10.fresh hb10 hX11
      clear hU10 hc10 hX11 hz11 hb10
      have h11_K256 := hU11.heap h9_K256 (by simp)
      have h11_I256 := hU11.heap h9_I256 (by simp)
      have r11_f256 := r9_f256.upd0 hU11
      have r11_e256 := r9_e256.upd0 hU11
      have hV11 := hV9.trans hU11
      clear hU11 hV9 h9_K256 h9_I256 r9_f256 r9_e256
      go_upto_region 9 with (first
              | (with_reducible refine arm_load (by with_unfolding_all exact rfl) (by assumption) Tryd.underlying23 (by with_unfolding_all exact rfl) (by assumption) ?_)
              | (with_reducible refine arm_load_g (by with_unfolding_all exact rfl) (by with_unfolding_all exact rfl) (by assumption) Tryd.underlying23 (by with_unfolding_all exact rfl) (by assumption) ?_))
      have hQ11 : Hid (∀ w', Upd [] w11 w' → ∃ t fr, w'.heap[b10]? = some (.cells c2256 t fr)) := fun w' h => ⟨_, _, h.heap h11_W256 (by simp)⟩
      refine wp_region_quiet_all (Upd [] w11) (by kernel_rfl) (by kernel_rfl) (Upd.refl _ _).drew ?_
      repeat (first
        | (refine wpQuiet_val rfl (quiet_load_row 23 _ rfl b10 rfl _ hQ11.out Tryd.underlying23 rfl hs2256) ?_)
        | (refine wpQuiet_val rfl (quiet_build0 HBZ.out) ?_)
        | (refine wpQuiet_step (fun K hK => ?_)
           go_simp
           first
             | (refine ⟨_, fun _ _ => rfl, hK _ ?_⟩; clear hK K)
             | ((with_reducible refine ⟨_, fun w2 hw2 => (M256.out w2 (hV11.trans hw2)).mono (fun e w' h => ⟨h.1, hw2.trans h.2⟩), hK _ ?_⟩); clear hK K)
             | ((with_reducible refine ⟨_, fun w2 hw2 => (X256.out w2 (hV11.trans hw2)).mono (fun e w' h => ⟨h.1, hw2.trans h.2⟩), hK _ ?_⟩); clear hK K)
             | ((with_reducible refine ⟨_, fun w2 hw2 => (HN.out.at w2 (hV11.trans hw2)).mono (fun e w' h => ⟨h.1, hw2.trans h.2⟩), hK _ ?_⟩); clear hK K)
             | (refine hK _ ?_; clear hK K)))
      refine wpQuiet_nil ?_
      intro w12 hU12
      clear hQ11
      have h12_K256 := hU12.heap h11_K256 (by simp)
      have h12_I256 := hU12.heap h11_I256 (by simp)
      have h12_W256 := hU12.heap h11_W256 (by simp)
      have r12_f256 := r11_f256.upd0 hU12
      have r12_e256 := r11_e256.upd0 hU12
      have hV12 := hV11.trans hU12
      clear hU12 hV11 h11_K256 h11_I256 h11_W256 r11_f256 r11_e256
      go_upto_region 12 with (fail)
      go_wp2_with (first
              | (with_reducible refine arm_load (by with_unfolding_all exact rfl) (by assumption) Tryd.underlying23 (by with_unfolding_all exact rfl) (by assumption) ?_)
              | (with_reducible refine arm_load_g (by with_unfolding_all exact rfl) (by with_unfolding_all exact rfl) (by assumption) Tryd.underlying23 (by with_unfolding_all exact rfl) (by assumption) ?_))
      with_reducible refine (F5121.out _ _ hV12 (K512.out (by omega) _ hV12)).mono ?_
      rintro e w13 ⟨v13, rfl, hN13, hU13⟩
      have h13_K256 := hU13.heap h12_K256 (by simp)
      have h13_I256 := hU13.heap h12_I256 (by simp)
      have h13_W256 := hU13.heap h12_W256 (by simp)
      have r13_f256 := r12_f256.upd0 hU13
      have r13_e256 := r12_e256.upd0 hU13
      have hV13 := hV12.trans hU13
      clear hU13 hV12 h12_K256 h12_I256 h12_W256 r12_f256 r12_e256
      have r13_f512 := hN13.rd
      clear hN13
      go_wp2_with (first
              | (with_reducible refine arm_load (by with_unfolding_all exact rfl) (by assumption) Tryd.underlying23 (by with_unfolding_all exact rfl) (by assumption) ?_)
              | (with_reducible refine arm_load_g (by with_unfolding_all exact rfl) (by with_unfolding_all exact rfl) (by assumption) Tryd.underlying23 (by with_unfolding_all exact rfl) (by assumption) ?_))
      with_reducible refine (S5121.out _ _ hV13 r13_f512).mono ?_
      rintro e w14 ⟨rfl, hU14⟩
      have h14_K256 := hU14.heap h13_K256 (by simp)
      have h14_I256 := hU14.heap h13_I256 (by simp)
      have h14_W256 := hU14.heap h13_W256 (by simp)
      have r14_f256 := r13_f256.upd0 hU14
      have r14_e256 := r13_e256.upd0 hU14
      have r14_f512 := r13_f512.upd0 hU14
      have hV14 := hV13.trans hU14
      clear hU14 hV13 h13_K256 h13_I256 h13_W256 r13_f256 r13_e256 r13_f512
      go_wp2_with (first
              | (with_reducible refine arm_load (by with_unfolding_all exact rfl) (by assumption) Tryd.underlying23 (by with_unfolding_all exact rfl) (by assumption) ?_)
              | (with_reducible refine arm_load_g (by with_unfolding_all exact rfl) (by with_unfolding_all exact rfl) (by assumption) Tryd.underlying23 (by with_unfolding_all exact rfl) (by assumption) ?_)
              | (with_reducible refine arm_alloc (zero512 _) ?_))
      intro b15 w15 hb15 hc15 hU15 hz15
      clear hz15
      change w15.heap[b15]? = some (.cells (zrow8 64) 36 (0, 0)) at hc15
      go_wp2_with (first
              | (with_reducible refine arm_load (by with_unfolding_all exact rfl) (by assumption) Tryd.underlying23 (by with_unfolding_all exact rfl) (by assumption) ?_)
              | (with_reducible refine arm_load_g (by with_unfolding_all exact rfl) (by with_unfolding_all exact rfl) (by assumption) Tryd.underlying23 (by with_unfolding_all exact rfl) (by assumption) ?_)
              | (with_reducible refine arm_store (by with_unfolding_all exact rfl) (by with_unfolding_all exact rfl) hc15 hs1512 ho1512 ha1512 ?_))
      intro w16 h16_I512 hX16 hz16
      have hU16 := hU15.fresh hb15 hX16
      clear hU15 hc15 hX16 hz16 hb15
      have h16_K256 := hU16.heap h14_K256 (by simp)
      have h16_I256 := hU16.heap h14_I256 (by simp)
      have h16_W256 := hU16.heap h14_W256 (by simp)
      have r16_f256 := r14_f256.upd0 hU16
      have r16_e256 := r14_e256.upd0 hU16
      have r16_f512 := r14_f512.upd0 hU16
      have hV16 := hV14.trans hU16
      clear hU16 hV14 h14_K256 h14_I256 h14_W256 r14_f256 r14_e256 r14_f512
      go_upto_region 16 with (fail)
      refine wp_region_orders [0, 1, 3, 4] (.step 2 (.step 5 (.step 6 (.step 7 (.step 8 .none .none) .none) .none) .none) .none) (Upd [] w16) (by kernel_rfl) (by kernel_rfl) ((Upd.refl _ _).drew) ?_
      refine takeO_cons _ _ rfl rfl (yields_move rfl) ?_
      refine takeO_cons _ _ rfl rfl (yields_move rfl) ?_
      refine takeO_cons _ _ rfl rfl (yields_move rfl) ?_
      refine takeO_cons _ (.slice (some ⟨b15, 0, none⟩) 64 64) rfl rfl (fun w _ => by kernel_rfl) ?_
      refine takeO_nil (by simp [Ord.first]) ?_
      refine ordP_step _ (by simp only [List.getElem?_toArray, List.getElem?_cons_succ, List.getElem?_cons_zero]; rfl) ?_ ordP_none
      go_wp2_with fail
      with_reducible refine (M512.out _ (hV16.trans (Upd.refl [] w16).drew)).mono ?_
      rintro e wx4 ⟨rfl, hUx4⟩
      have hTx4 := (Upd.refl [] w16).drew.trans hUx4
      go_wp2_with fail
      refine ord_more (by simp [Ord.first]) (hTx4) ?_
      refine ordP_step _ (by simp only [List.getElem?_toArray, List.getElem?_cons_succ, List.getElem?_cons_zero]; rfl) ?_ ordP_none
      go_wp2_with fail
      with_reducible refine (F5122.out _ _ _ (K512.out (by omega) _ (hV16.trans hTx4)) (R1512.out _ _ _ _ ((hTx4).heap h16_I512 (by simp)))).mono ?_
      rintro e wx5 ⟨vx5, rfl, hNx5, hUx5⟩
      have hTx5 := hTx4.trans hUx5
      have hMx5 := hNx5.rd
      go_wp2_with fail
      refine ord_more (by simp [Ord.first]) (hTx5) ?_
      refine ordP_step _ (by simp only [List.getElem?_toArray, List.getElem?_cons_succ, List.getElem?_cons_zero]; rfl) ?_ ordP_none
      go_wp2_with fail
      with_reducible refine (S5122.out _ _ (hV16.trans hTx5) hMx5).mono ?_
      rintro e wx6 ⟨rfl, hUx6⟩
      have hTx6 := hTx5.trans hUx6
      have hx6_fr := hMx5.upd0 hUx6
      go_wp2_with fail
      refine ord_more (by simp [Ord.first]) (hTx6) ?_
      refine ordP_step _ (by simp only [List.getElem?_toArray, List.getElem?_cons_succ, List.getElem?_cons_zero]; rfl) ?_ ordP_none
      go_wp2_with fail
      refine ord_more (by simp [Ord.first]) (hTx6) ?_
      refine ordP_step _ (by simp only [List.getElem?_toArray, List.getElem?_cons_succ, List.getElem?_cons_zero]; rfl) ?_ ordP_none
      go_wp2_with fail
      refine ord_last (hTx6) ?_
      show Exit.then _ _ Exit.normal _ _
      go_wp2_with fail
      go_ret
      exact ⟨rfl, hV16.trans hTx6⟩
    · have l2' : decide ((128 : Int) < (n : Int)) = true := by simp; omega
      go_enter Tryd.func6, Tryd.ntmps6
      go_upto_region 4 with (fail)
      go_wp2_with (first
              | (with_reducible refine arm_load (by with_unfolding_all exact rfl) (by assumption) Tryd.underlying23 (by with_unfolding_all exact rfl) (by assumption) ?_)
              | (with_reducible refine arm_load_g (by with_unfolding_all exact rfl) (by with_unfolding_all exact rfl) (by assumption) Tryd.underlying23 (by with_unfolding_all exact rfl) (by assumption) ?_))
      with_reducible refine (S256.out _ (Upd.refl [] w)).mono ?_
      rintro e w1 ⟨rfl, hU1⟩
      have hV1 : Upd [] w w1 := hU1
      clear hU1
      go_wp2_with (first
              | (with_reducible refine arm_load (by with_unfolding_all exact rfl) (by assumption) Tryd.underlying23 (by with_unfolding_all exact rfl) (by assumption) ?_)
              | (with_reducible refine arm_load_g (by with_unfolding_all exact rfl) (by with_unfolding_all exact rfl) (by assumption) Tryd.underlying23 (by with_unfolding_all exact rfl) (by assumption) ?_)
              | (with_reducible refine arm_alloc (zero256 _) ?_))
      intro b2 w2 hb2 hc2 hU2 hz2
      clear hz2
      change w2.heap[b2]? = some (.cells (zrow8 32) 23 (0, 0)) at hc2
      go_wp2_with (first
              | (with_reducible refine arm_load (by with_unfolding_all exact rfl) (by assumption) Tryd.underlying23 (by with_unfolding_all exact rfl) (by assumption) ?_)
              | (with_reducible refine arm_load_g (by with_unfolding_all exact rfl) (by with_unfolding_all exact rfl) (by assumption) Tryd.underlying23 (by with_unfolding_all exact rfl) (by assumption) ?_)
              | (with_reducible refine arm_store (by with_unfolding_all exact rfl) (by with_unfolding_all exact rfl) hc2 hs0256 ho0256 ha0256 ?_))
      intro w3 h3_K256 hX3 hz3
      have hU3 := hU2.fresh hb2 hX3
      clear hU2 hc2 hX3 hz3 hb2
      have hV3 := hV1.trans hU3
      clear hU3 hV1
      go_wp2_with (first
              | (with_reducible refine arm_load (by with_unfolding_all exact rfl) (by assumption) Tryd.underlying23 (by with_unfolding_all exact rfl) (by assumption) ?_)
              | (with_reducible refine arm_load_g (by with_unfolding_all exact rfl) (by with_unfolding_all exact rfl) (by assumption) Tryd.underlying23 (by with_unfolding_all exact rfl) (by assumption) ?_))
      with_reducible refine (F2561.out _ _ hV3 (R0256.out (by omega) _ _ _ _ h3_K256)).mono ?_
      rintro e w4 ⟨v4, rfl, hN4, hU4⟩
      have h4_K256 := hU4.heap h3_K256 (by simp)
      have hV4 := hV3.trans hU4
      clear hU4 hV3 h3_K256
      have r4_f256 := hN4.rd
      clear hN4
      go_wp2_with (first
              | (with_reducible refine arm_load (by with_unfolding_all exact rfl) (by assumption) Tryd.underlying23 (by with_unfolding_all exact rfl) (by assumption) ?_)
              | (with_reducible refine arm_load_g (by with_unfolding_all exact rfl) (by with_unfolding_all exact rfl) (by assumption) Tryd.underlying23 (by with_unfolding_all exact rfl) (by assumption) ?_))
      with_reducible refine (S2561.out _ _ hV4 r4_f256).mono ?_
      rintro e w5 ⟨rfl, hU5⟩
      have h5_K256 := hU5.heap h4_K256 (by simp)
      have r5_f256 := r4_f256.upd0 hU5
      have hV5 := hV4.trans hU5
      clear hU5 hV4 h4_K256 r4_f256
      go_wp2_with (first
              | (with_reducible refine arm_load (by with_unfolding_all exact rfl) (by assumption) Tryd.underlying23 (by with_unfolding_all exact rfl) (by assumption) ?_)
              | (with_reducible refine arm_load_g (by with_unfolding_all exact rfl) (by with_unfolding_all exact rfl) (by assumption) Tryd.underlying23 (by with_unfolding_all exact rfl) (by assumption) ?_)
              | (with_reducible refine arm_alloc (zero256 _) ?_))
      intro b6 w6 hb6 hc6 hU6 hz6
      clear hz6
      change w6.heap[b6]? = some (.cells (zrow8 32) 23 (0, 0)) at hc6
      go_wp2_with (first
              | (with_reducible refine arm_load (by with_unfolding_all exact rfl) (by assumption) Tryd.underlying23 (by with_unfolding_all exact rfl) (by assumption) ?_)
              | (with_reducible refine arm_load_g (by with_unfolding_all exact rfl) (by with_unfolding_all exact rfl) (by assumption) Tryd.underlying23 (by with_unfolding_all exact rfl) (by assumption) ?_)
              | (with_reducible refine arm_store (by with_unfolding_all exact rfl) (by with_unfolding_all exact rfl) hc6 hs1256 ho1256 ha1256 ?_))
      intro w7 h7_I256 hX7 hz7
      have hU7 := hU6.fresh hb6 hX7
      clear hU6 hc6 hX7 hz7 hb6
      have h7_K256 := hU7.heap h5_K256 (by simp)
      have r7_f256 := r5_f256.upd0 hU7
      have hV7 := hV5.trans hU7
      clear hU7 hV5 h5_K256 r5_f256
      go_wp2_with (first
              | (with_reducible refine arm_load (by with_unfolding_all exact rfl) (by assumption) Tryd.underlying23 (by with_unfolding_all exact rfl) (by assumption) ?_)
              | (with_reducible refine arm_load_g (by with_unfolding_all exact rfl) (by with_unfolding_all exact rfl) (by assumption) Tryd.underlying23 (by with_unfolding_all exact rfl) (by assumption) ?_))
      with_reducible refine (F2562.out _ _ _ (R0256.out (by omega) _ _ _ _ h7_K256) (R1256.out _ _ _ _ h7_I256)).mono ?_
      rintro e w8 ⟨v8, rfl, hN8, hU8⟩
      have h8_K256 := hU8.heap h7_K256 (by simp)
      have h8_I256 := hU8.heap h7_I256 (by simp)
      have r8_f256 := r7_f256.upd0 hU8
      have hV8 := hV7.trans hU8
      clear hU8 hV7 h7_K256 h7_I256 r7_f256
      have r8_e256 := hN8.rd
      clear hN8
      go_wp2_with (first
              | (with_reducible refine arm_load (by with_unfolding_all exact rfl) (by assumption) Tryd.underlying23 (by with_unfolding_all exact rfl) (by assumption) ?_)
              | (with_reducible refine arm_load_g (by with_unfolding_all exact rfl) (by with_unfolding_all exact rfl) (by assumption) Tryd.underlying23 (by with_unfolding_all exact rfl) (by assumption) ?_))
      with_reducible refine (S2562.out _ _ hV8 r8_e256).mono ?_
      rintro e w9 ⟨rfl, hU9⟩
      have h9_K256 := hU9.heap h8_K256 (by simp)
      have h9_I256 := hU9.heap h8_I256 (by simp)
      have r9_f256 := r8_f256.upd0 hU9
      have r9_e256 := r8_e256.upd0 hU9
      have hV9 := hV8.trans hU9
      clear hU9 hV8 h8_K256 h8_I256 r8_f256 r8_e256
      go_wp2_with (first
              | (with_reducible refine arm_load (by with_unfolding_all exact rfl) (by assumption) Tryd.underlying23 (by with_unfolding_all exact rfl) (by assumption) ?_)
              | (with_reducible refine arm_load_g (by with_unfolding_all exact rfl) (by with_unfolding_all exact rfl) (by assumption) Tryd.underlying23 (by with_unfolding_all exact rfl) (by assumption) ?_)
              | (with_reducible refine arm_alloc (zero256 _) ?_))
      intro b10 w10 hb10 hc10 hU10 hz10
      clear hz10
      change w10.heap[b10]? = some (.cells (zrow8 32) 23 (0, 0)) at hc10
      go_wp2_with (first
              | (with_reducible refine arm_load (by with_unfolding_all exact rfl) (by assumption) Tryd.underlying23 (by with_unfolding_all exact rfl) (by assumption) ?_)
              | (with_reducible refine arm_load_g (by with_unfolding_all exact rfl) (by with_unfolding_all exact rfl) (by assumption) Tryd.underlying23 (by with_unfolding_all exact rfl) (by assumption) ?_)
              | (with_reducible refine arm_store (by with_unfolding_all exact rfl) (by with_unfolding_all exact rfl) hc10 hs2256 ho2256 ha2256 ?_))
      intro w11 h11_W256 hX11 hz11
      have hU11 := hU10.fresh hb10 hX11
      clear hU10 hc10 hX11 hz11 hb10
      have h11_K256 := hU11.heap h9_K256 (by simp)
      have h11_I256 := hU11.heap h9_I256 (by simp)
      have r11_f256 := r9_f256.upd0 hU11
      have r11_e256 := r9_e256.upd0 hU11
      have hV11 := hV9.trans hU11
      clear hU11 hV9 h9_K256 h9_I256 r9_f256 r9_e256
      go_upto_region 9 with (first
              | (with_reducible refine arm_load (by with_unfolding_all exact rfl) (by assumption) Tryd.underlying23 (by with_unfolding_all exact rfl) (by assumption) ?_)
              | (with_reducible refine arm_load_g (by with_unfolding_all exact rfl) (by with_unfolding_all exact rfl) (by assumption) Tryd.underlying23 (by with_unfolding_all exact rfl) (by assumption) ?_))
      have hQ11 : Hid (∀ w', Upd [] w11 w' → ∃ t fr, w'.heap[b10]? = some (.cells c2256 t fr)) := fun w' h => ⟨_, _, h.heap h11_W256 (by simp)⟩
      refine wp_region_quiet_all (Upd [] w11) (by kernel_rfl) (by kernel_rfl) (Upd.refl _ _).drew ?_
      repeat (first
        | (refine wpQuiet_val rfl (quiet_load_row 23 _ rfl b10 rfl _ hQ11.out Tryd.underlying23 rfl hs2256) ?_)
        | (refine wpQuiet_val rfl (quiet_build0 HBZ.out) ?_)
        | (refine wpQuiet_step (fun K hK => ?_)
           go_simp
           first
             | (refine ⟨_, fun _ _ => rfl, hK _ ?_⟩; clear hK K)
             | ((with_reducible refine ⟨_, fun w2 hw2 => (M256.out w2 (hV11.trans hw2)).mono (fun e w' h => ⟨h.1, hw2.trans h.2⟩), hK _ ?_⟩); clear hK K)
             | ((with_reducible refine ⟨_, fun w2 hw2 => (X256.out w2 (hV11.trans hw2)).mono (fun e w' h => ⟨h.1, hw2.trans h.2⟩), hK _ ?_⟩); clear hK K)
             | ((with_reducible refine ⟨_, fun w2 hw2 => (HN.out.at w2 (hV11.trans hw2)).mono (fun e w' h => ⟨h.1, hw2.trans h.2⟩), hK _ ?_⟩); clear hK K)
             | (refine hK _ ?_; clear hK K)))
      refine wpQuiet_nil ?_
      intro w12 hU12
      clear hQ11
      have h12_K256 := hU12.heap h11_K256 (by simp)
      have h12_I256 := hU12.heap h11_I256 (by simp)
      have h12_W256 := hU12.heap h11_W256 (by simp)
      have r12_f256 := r11_f256.upd0 hU12
      have r12_e256 := r11_e256.upd0 hU12
      have hV12 := hV11.trans hU12
      clear hU12 hV11 h11_K256 h11_I256 h11_W256 r11_f256 r11_e256
      go_upto_region 12 with (fail)
      go_wp2_with (first
              | (with_reducible refine arm_load (by with_unfolding_all exact rfl) (by assumption) Tryd.underlying23 (by with_unfolding_all exact rfl) (by assumption) ?_)
              | (with_reducible refine arm_load_g (by with_unfolding_all exact rfl) (by with_unfolding_all exact rfl) (by assumption) Tryd.underlying23 (by with_unfolding_all exact rfl) (by assumption) ?_))
      with_reducible refine (S512.out _ hV12).mono ?_
      rintro e w13 ⟨rfl, hU13⟩
      have h13_K256 := hU13.heap h12_K256 (by simp)
      have h13_I256 := hU13.heap h12_I256 (by simp)
      have h13_W256 := hU13.heap h12_W256 (by simp)
      have r13_f256 := r12_f256.upd0 hU13
      have r13_e256 := r12_e256.upd0 hU13
      have hV13 := hV12.trans hU13
      clear hU13 hV12 h12_K256 h12_I256 h12_W256 r12_f256 r12_e256
      go_wp2_with (first
              | (with_reducible refine arm_load (by with_unfolding_all exact rfl) (by assumption) Tryd.underlying23 (by with_unfolding_all exact rfl) (by assumption) ?_)
              | (with_reducible refine arm_load_g (by with_unfolding_all exact rfl) (by with_unfolding_all exact rfl) (by assumption) Tryd.underlying23 (by with_unfolding_all exact rfl) (by assumption) ?_)
              | (with_reducible refine arm_alloc (zero512 _) ?_))
      intro b14 w14 hb14 hc14 hU14 hz14
      clear hz14
      change w14.heap[b14]? = some (.cells (zrow8 64) 36 (0, 0)) at hc14
      go_wp2_with (first
              | (with_reducible refine arm_load (by with_unfolding_all exact rfl) (by assumption) Tryd.underlying23 (by with_unfolding_all exact rfl) (by assumption) ?_)
              | (with_reducible refine arm_load_g (by with_unfolding_all exact rfl) (by with_unfolding_all exact rfl) (by assumption) Tryd.underlying23 (by with_unfolding_all exact rfl) (by assumption) ?_)
              | (with_reducible refine arm_store (by with_unfolding_all exact rfl) (by with_unfolding_all exact rfl) hc14 hs0512 ho0512 ha0512 ?_))
      intro w15 h15_K512 hX15 hz15
      have hU15 := hU14.fresh hb14 hX15
      clear hU14 hc14 hX15 hz15 hb14
      have h15_K256 := hU15.heap h13_K256 (by simp)
      have h15_I256 := hU15.heap h13_I256 (by simp)
      have h15_W256 := hU15.heap h13_W256 (by simp)
      have r15_f256 := r13_f256.upd0 hU15
      have r15_e256 := r13_e256.upd0 hU15
      have hV15 := hV13.trans hU15
      clear hU15 hV13 h13_K256 h13_I256 h13_W256 r13_f256 r13_e256
      go_wp2_with (first
              | (with_reducible refine arm_load (by with_unfolding_all exact rfl) (by assumption) Tryd.underlying23 (by with_unfolding_all exact rfl) (by assumption) ?_)
              | (with_reducible refine arm_load_g (by with_unfolding_all exact rfl) (by with_unfolding_all exact rfl) (by assumption) Tryd.underlying23 (by with_unfolding_all exact rfl) (by assumption) ?_))
      with_reducible refine (F5121.out _ _ hV15 (R0512.out (by omega) _ _ _ _ h15_K512)).mono ?_
      rintro e w16 ⟨v16, rfl, hN16, hU16⟩
      have h16_K256 := hU16.heap h15_K256 (by simp)
      have h16_I256 := hU16.heap h15_I256 (by simp)
      have h16_W256 := hU16.heap h15_W256 (by simp)
      have h16_K512 := hU16.heap h15_K512 (by simp)
      have r16_f256 := r15_f256.upd0 hU16
      have r16_e256 := r15_e256.upd0 hU16
      have hV16 := hV15.trans hU16
      clear hU16 hV15 h15_K256 h15_I256 h15_W256 h15_K512 r15_f256 r15_e256
      have r16_f512 := hN16.rd
      clear hN16
      go_wp2_with (first
              | (with_reducible refine arm_load (by with_unfolding_all exact rfl) (by assumption) Tryd.underlying23 (by with_unfolding_all exact rfl) (by assumption) ?_)
              | (with_reducible refine arm_load_g (by with_unfolding_all exact rfl) (by with_unfolding_all exact rfl) (by assumption) Tryd.underlying23 (by with_unfolding_all exact rfl) (by assumption) ?_))
      with_reducible refine (S5121.out _ _ hV16 r16_f512).mono ?_
      rintro e w17 ⟨rfl, hU17⟩
      have h17_K256 := hU17.heap h16_K256 (by simp)
      have h17_I256 := hU17.heap h16_I256 (by simp)
      have h17_W256 := hU17.heap h16_W256 (by simp)
      have h17_K512 := hU17.heap h16_K512 (by simp)
      have r17_f256 := r16_f256.upd0 hU17
      have r17_e256 := r16_e256.upd0 hU17
      have r17_f512 := r16_f512.upd0 hU17
      have hV17 := hV16.trans hU17
      clear hU17 hV16 h16_K256 h16_I256 h16_W256 h16_K512 r16_f256 r16_e256 r16_f512
      go_wp2_with (first
              | (with_reducible refine arm_load (by with_unfolding_all exact rfl) (by assumption) Tryd.underlying23 (by with_unfolding_all exact rfl) (by assumption) ?_)
              | (with_reducible refine arm_load_g (by with_unfolding_all exact rfl) (by with_unfolding_all exact rfl) (by assumption) Tryd.underlying23 (by with_unfolding_all exact rfl) (by assumption) ?_)
              | (with_reducible refine arm_alloc (zero512 _) ?_))
      intro b18 w18 hb18 hc18 hU18 hz18
      clear hz18
      change w18.heap[b18]? = some (.cells (zrow8 64) 36 (0, 0)) at hc18
      go_wp2_with (first
              | (with_reducible refine arm_load (by with_unfolding_all exact rfl) (by assumption) Tryd.underlying23 (by with_unfolding_all exact rfl) (by assumption) ?_)
              | (with_reducible refine arm_load_g (by with_unfolding_all exact rfl) (by with_unfolding_all exact rfl) (by assumption) Tryd.underlying23 (by with_unfolding_all exact rfl) (by assumption) ?_)
              | (with_reducible refine arm_store (by with_unfolding_all exact rfl) (by with_unfolding_all exact rfl) hc18 hs1512 ho1512 ha1512 ?_))
      intro w19 h19_I512 hX19 hz19
      have hU19 := hU18.fresh hb18 hX19
      clear hU18 hc18 hX19 hz19 hb18
      have h19_K256 := hU19.heap h17_K256 (by simp)
      have h19_I256 := hU19.heap h17_I256 (by simp)
      have h19_W256 := hU19.heap h17_W256 (by simp)
      have h19_K512 := hU19.heap h17_K512 (by simp)
      have r19_f256 := r17_f256.upd0 hU19
      have r19_e256 := r17_e256.upd0 hU19
      have r19_f512 := r17_f512.upd0 hU19
      have hV19 := hV17.trans hU19
      clear hU19 hV17 h17_K256 h17_I256 h17_W256 h17_K512 r17_f256 r17_e256 r17_f512
      go_upto_region 16 with (fail)
      refine wp_region_orders [0, 1, 3, 4] (.step 2 (.step 5 (.step 6 (.step 7 (.step 8 .none .none) .none) .none) .none) .none) (Upd [] w19) (by kernel_rfl) (by kernel_rfl) ((Upd.refl _ _).drew) ?_
      refine takeO_cons _ _ rfl rfl (yields_move rfl) ?_
      refine takeO_cons _ _ rfl rfl (yields_move rfl) ?_
      refine takeO_cons _ _ rfl rfl (yields_move rfl) ?_
      refine takeO_cons _ (.slice (some ⟨b18, 0, none⟩) 64 64) rfl rfl (fun w _ => by kernel_rfl) ?_
      refine takeO_nil (by simp [Ord.first]) ?_
      refine ordP_step _ (by simp only [List.getElem?_toArray, List.getElem?_cons_succ, List.getElem?_cons_zero]; rfl) ?_ ordP_none
      go_wp2_with fail
      with_reducible refine (M512.out _ (hV19.trans (Upd.refl [] w19).drew)).mono ?_
      rintro e wx7 ⟨rfl, hUx7⟩
      have hTx7 := (Upd.refl [] w19).drew.trans hUx7
      go_wp2_with fail
      refine ord_more (by simp [Ord.first]) (hTx7) ?_
      refine ordP_step _ (by simp only [List.getElem?_toArray, List.getElem?_cons_succ, List.getElem?_cons_zero]; rfl) ?_ ordP_none
      go_wp2_with fail
      with_reducible refine (F5122.out _ _ _ (R0512.out (by omega) _ _ _ _ ((hTx7).heap h19_K512 (by simp))) (R1512.out _ _ _ _ ((hTx7).heap h19_I512 (by simp)))).mono ?_
      rintro e wx8 ⟨vx8, rfl, hNx8, hUx8⟩
      have hTx8 := hTx7.trans hUx8
      have hMx8 := hNx8.rd
      go_wp2_with fail
      refine ord_more (by simp [Ord.first]) (hTx8) ?_
      refine ordP_step _ (by simp only [List.getElem?_toArray, List.getElem?_cons_succ, List.getElem?_cons_zero]; rfl) ?_ ordP_none
      go_wp2_with fail
      with_reducible refine (S5122.out _ _ (hV19.trans hTx8) hMx8).mono ?_
      rintro e wx9 ⟨rfl, hUx9⟩
      have hTx9 := hTx8.trans hUx9
      have hx9_fr := hMx8.upd0 hUx9
      go_wp2_with fail
      refine ord_more (by simp [Ord.first]) (hTx9) ?_
      refine ordP_step _ (by simp only [List.getElem?_toArray, List.getElem?_cons_succ, List.getElem?_cons_zero]; rfl) ?_ ordP_none
      go_wp2_with fail
      refine ord_more (by simp [Ord.first]) (hTx9) ?_
      refine ordP_step _ (by simp only [List.getElem?_toArray, List.getElem?_cons_succ, List.getElem?_cons_zero]; rfl) ?_ ordP_none
      go_wp2_with fail
      refine ord_last (hTx9) ?_
      show Exit.then _ _ Exit.normal _ _
      go_wp2_with fail
      go_ret
      exact ⟨rfl, hV19.trans hTx9⟩
end Go.Proofs.YtgpieipflidkpaaDoor
