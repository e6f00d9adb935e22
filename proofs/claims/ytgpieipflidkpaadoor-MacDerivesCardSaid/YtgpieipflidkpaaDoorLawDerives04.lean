/-
  The law MacDerives: what is derived is expanded from the label, a byte 0 and the number's eight bytes.
-/
import Derived.Test.YtgpieipflidkpaaDoorDerive
import Derived.Test.YtgpieipflidkpaaDoorRegion
namespace Go.Proofs.YtgpieipflidkpaaDoor
open Go Go.RowKit Go.Proofs
set_option maxRecDepth 100000 in
set_option maxHeartbeats 800000 in
/-- two byte strings: the same, or not -/
theorem same04 (w : World) (va vb : Value) (la lb : List (BitVec 8)) (ha : ReadB w va la) (hb : ReadB w vb lb) (hl : la.length ≤ 281474976710656) (hm : lb.length ≤ 281474976710656) :
    Calls Tryd.prog 11 #[va, vb] w fun e w' => e = .returned (.bool (la == lb)) ∧ ∃ n, w' = w.drewN n := by
  by_cases hlen : la.length = lb.length
  · by_cases h0 : la.length = 0
    · obtain ⟨a, c, rfl⟩ := ha.isSlice
      obtain ⟨b, d, rfl⟩ := hb.isSlice
      have e1 : la = [] := List.eq_nil_of_length_eq_zero h0
      have e2 : lb = [] := List.eq_nil_of_length_eq_zero (by omega)
      subst e1 e2
      clear ha hb
      simp only [List.length_nil]
      go_enter Tryd.func11, Tryd.ntmps11
      go_wp2
      refine wp_loop_rounds 1 ?_
      rw [rounds_succ]
      go_wp2
      go_ret
      exact ⟨rfl, 0, rfl⟩
    · obtain ⟨g, p, c, rfl, hA⟩ := ha.at (by omega)
      obtain ⟨g', p', c', rfl, hB⟩ := hb.at (by omega)
      obtain ⟨n, hn⟩ : ∃ n, la.length = n := ⟨_, rfl⟩
      rw [← hlen]
      rw [hn] at hlen hl ⊢
      clear ha hb h0
      have HA := Lib.hid hA
      have HB := Lib.hid hB
      clear hA hB
      go_enter Tryd.func11, Tryd.ntmps11
      go_wp2
      go_loopw [5] (fun i wr => ∃ k q : Nat, k ≤ n ∧ i = .int .i64 k ∧ la.take k = lb.take k ∧ wr = w.drewN q) (fun i _ => n - (intOf i).toNat)
      case atStart => exact ⟨0, 0, by omega, rfl, by simp, rfl⟩
      case round =>
        obtain ⟨k, q, hk, rfl, heq, hwr⟩ := hrel
        have hka : k ≤ la.length := by omega
        have HW := Lib.hid hwr
        by_cases h : k < n
        · have c0 : wr.cell? ⟨g, p + k, none⟩ = some (U8 (la[k]'(by omega))) := by rw [hwr]; exact HA.out k (by omega)
          have c1 : wr.cell? ⟨g', p' + k, none⟩ = some (U8 (lb[k]'(by omega))) := by rw [hwr]; exact HB.out k (by omega)
          obtain ⟨x, hx⟩ : ∃ x, la[k]'(by omega) = x := ⟨_, rfl⟩
          obtain ⟨y, hy⟩ : ∃ y, lb[k]'(by omega) = y := ⟨_, rfl⟩
          rw [hx] at c0
          rw [hy] at c1
          have HE := Lib.hid heq
          have HX := Lib.hid hx
          have HY := Lib.hid hy
          clear hwr heq hx hy
          by_cases hxy : x = y
          · have hne : (x != y) = false := by simp [hxy]
            go_wp2
            go_quiet (skip)
            rename Nat => nq
            go_wp2
            go_roundw
            case rel =>
              refine ⟨k + 1, q + nq, by omega, by go_num, ?_, by rw [HW.out, World.drewN_drewN]⟩
              rw [take_snoc' la k (by omega), take_snoc' lb k (by omega), HE.out, HX.out, HY.out, hxy]
            case measure => simp [intOf]; omega
          · have hne : (x != y) = true := by simp [hxy]
            go_wp2
            go_quiet (skip)
            rename Nat => nq
            go_wp2
            go_ret
            refine ⟨ret_eq (congrArg Value.bool ?_), q + nq, by rw [HW.out, World.drewN_drewN]⟩
            symm
            rw [beq_eq_false_iff_ne]
            intro e
            apply hxy
            rw [← HX.out, ← HY.out]
            simp [e]
        · obtain rfl : k = n := by omega
          have he : la = lb := by
            rw [List.take_of_length_le (by omega), List.take_of_length_le (by omega)] at heq
            exact heq
          clear hwr
          go_wp2
          go_ret
          exact ⟨ret_eq (by simp [he]), q, HW.out⟩
  · obtain ⟨a, c, rfl⟩ := ha.isSlice
    obtain ⟨b, d, rfl⟩ := hb.isSlice
    have hne : (la == lb) = false := by rw [beq_eq_false_iff_ne]; intro e; exact hlen (by rw [e])
    have HE := Lib.hid hne
    have hlen' : ¬ ((la.length : Int) = lb.length) := by omega
    clear ha hb hne
    go_enter Tryd.func11, Tryd.ntmps11
    go_wp2
    go_ret
    exact ⟨ret_eq (by rw [HE.out]; rfl), 0, rfl⟩

theorem bytesOfS_get (s : ByteArray) (i : Nat) (h : i < s.size) : (bytesOfS s)[i]'(by rw [bytesOfS_length]; exact h) = BitVec.ofNat 8 (s[i]'h).toNat := by
  simp only [bytesOfS, List.getElem_map, Array.getElem_toList]; rfl
theorem tell64_snoc (x : BitVec 64) (j : Nat) (h : j < 8) : (tell64 x).take j ++ [(x >>> (56 - 8 * j)).setWidth 8] = (tell64 x).take (j + 1) := by
  rw [List.take_succ_eq_append_getElem (by rw [tell64_length]; exact h), tell64_get x j h]
set_option maxRecDepth 100000 in
set_option maxHeartbeats 6400000 in
theorem law_derives04 (w : World) (key : List (BitVec 8)) (str : ByteArray) (n : Int) (hkl : key.length = 32) (hg : Gl256 w) (hf : GlFirst256 w) :
    Calls Tryd.prog 4 #[.agg (key.map U8).toArray, .string str, .int .i64 n] w fun x w' => x = .returned (.bool true) ∧ Upd [] w w' := by
  have hgd := guard_h32
  by_cases hbad : 32 < str.size ∨ n < 0 ∨ n > 2147483647
  · have HD : Hid (∀ W, Calls Tryd.prog 10 #[.agg (key.map U8).toArray, .string str, .int .i64 n] W fun e w' => e = .returned (.tuple #[.agg (zrow8 32), .bool false]) ∧ Upd [] W w') := fun W => derive_bad W _ str n hbad
    have hq : ∀ W, (binOp .eql 23 (.agg (zrow8 32)) (.agg (zrow8 32))).run Tryd.prog W = .ok (.bool true) W := fun W => by rw [zrow_h, eql_h32 _ _ (by simp) (by simp)]; simp
    obtain ⟨ck, hck⟩ : ∃ c, (key.map U8).toArray = c := ⟨_, rfl⟩
    have hsK := szrow256 hkl
    have hb := built_hash
    have hsz := size_z
    have hone := zrow_one
    obtain ⟨cz, hcz⟩ : ∃ c, zrow8 32 = c := ⟨_, rfl⟩
    have hzz : ∀ W, (zeroValue 23).run Tryd.prog W = .ok (.agg cz) W := fun W => by rw [← hcz]; exact zero256 W
    have HZZ := Lib.hid hzz
    rw [hck] at HD hsK ⊢
    rw [hcz] at hb hsz hone HD hq
    clear hck hcz hzz hg hf hkl
    have HBAD := Lib.hid hbad
    clear hbad
    go_enter Tryd.func4, Tryd.ntmps4
    go_wp2_with (with_reducible refine arm_box (by with_unfolding_all exact rfl) ?_)
    intro b3 w3 hb3 k3 hU3 hz3
    change w3.heap[b3]? = some (.cells ck 23 (0, 0)) at k3
    go_wp2_with (with_reducible refine arm_load (by with_unfolding_all exact rfl) k3 Tryd.underlying23 (by with_unfolding_all exact rfl) hsK ?_)
    with_reducible refine (HD.out _).mono ?_
    rintro e w4 ⟨rfl, hU4⟩
    have hV4 := hU3.trans hU4
    clear hb3 k3 hU3 hz3 hU4
    go_wp2_with (with_reducible refine arm_alloc (HZZ.out _) ?_)
    intro b7 w7 hb7 k7 hU7 hz7
    change w7.heap[b7]? = some (.cells cz 23 (0, 0)) at k7
    have hl7 : w.heap.size ≤ b7 := by have := hV4.size; omega
    have hV7 := hV4.trans hU7
    clear hb7 hz7 hV4 hU7
    go_wp2_with (with_reducible refine arm_store (by with_unfolding_all exact rfl) (by with_unfolding_all exact rfl) k7 hsz rfl hone ?_)
    intro w8 k8 hX8 hz8
    have hV8 := hV7.trans' hX8 (fun i hm hi => by simp at hm; omega)
    clear k7 hV7 hX8 hz8
    by_cases c1 : 32 < str.size
    · have d1 : (str.size : Int) > 32 := by omega
      go_wp2_with (first
        | (with_reducible refine arm_load (by with_unfolding_all exact rfl) k8 Tryd.underlying23 (by with_unfolding_all exact rfl) hsz ?_)
        | (with_reducible refine arm_load_g (by with_unfolding_all exact rfl) (by with_unfolding_all exact rfl) k8 Tryd.underlying23 (by with_unfolding_all exact rfl) hsz ?_)
        | (with_reducible refine arm_build0_g (by with_unfolding_all exact rfl) hb ?_) | (with_reducible refine arm_build0 hb ?_))
      go_ret
      exact ⟨rfl, hV8⟩
    · have d1 : ¬ ((str.size : Int) > 32) := by omega
      by_cases c2 : n < 0
      · go_wp2_with (first
          | (with_reducible refine arm_load (by with_unfolding_all exact rfl) k8 Tryd.underlying23 (by with_unfolding_all exact rfl) hsz ?_)
          | (with_reducible refine arm_load_g (by with_unfolding_all exact rfl) (by with_unfolding_all exact rfl) k8 Tryd.underlying23 (by with_unfolding_all exact rfl) hsz ?_)
          | (with_reducible refine arm_build0_g (by with_unfolding_all exact rfl) hb ?_) | (with_reducible refine arm_build0 hb ?_))
        go_ret
        exact ⟨rfl, hV8⟩
      · have c3 : n > 2147483647 := by have := HBAD.out; omega
        go_wp2_with (first
          | (with_reducible refine arm_load (by with_unfolding_all exact rfl) k8 Tryd.underlying23 (by with_unfolding_all exact rfl) hsz ?_)
          | (with_reducible refine arm_load_g (by with_unfolding_all exact rfl) (by with_unfolding_all exact rfl) k8 Tryd.underlying23 (by with_unfolding_all exact rfl) hsz ?_)
          | (with_reducible refine arm_build0_g (by with_unfolding_all exact rfl) hb ?_) | (with_reducible refine arm_build0 hb ?_))
        go_ret
        exact ⟨rfl, hV8⟩
  obtain ⟨n, rfl⟩ : ∃ N : Nat, n = N := ⟨n.toNat, by omega⟩
  have hs : str.size ≤ 32 := by omega
  have hn : n ≤ 2147483647 := by omega
  obtain ⟨X, hX⟩ : ∃ X, expOf key (derInfo str n) 32 = X := ⟨_, rfl⟩
  have hXl : X.length = 32 := by rw [← hX]; exact expOf_length _ _ _
  have HD : Hid (∀ W, Upd [] w W → Calls Tryd.prog 10 #[.agg (key.map U8).toArray, .string str, .int .i64 n] W fun e w' => e = .returned (.tuple #[.agg (X.map U8).toArray, .bool true]) ∧ Upd [] W w') := fun W hW => by
    have := derive_ W key str n hkl hs hn (hg.upd hW (by simp)) (hf.upd hW (by simp))
    rwa [hX] at this
  obtain ⟨x, hx⟩ : ∃ x, BitVec.ofNat 64 n = x := ⟨_, rfl⟩
  have HEX : Hid (∀ W v, Upd [] w W → RdB W v (bytesOfS str ++ [0] ++ tell64 x) → Calls Tryd.prog 8 #[.agg (key.map U8).toArray, v, .int .i64 32] W fun e w' => ∃ v, e = .returned (.tuple #[v, .bool true]) ∧ NewB W w' v X ∧ Upd [] W w') := fun W v hW hv => by
    have := expand_ W v key (derInfo str n) 32 hkl (by rw [derInfo, hx, ← List.append_assoc]; exact hv) (by rw [derInfo_length]; omega) (by omega) (hg.upd hW (by simp)) (hf.upd hW (by simp))
    rwa [hX] at this
  have hsK := szrow256 hkl
  have hsX := szrow256 hXl
  have hoX := sameZ256 hXl
  have haX : ((X.map U8).toArray).all (·.oneCell') = true := by simp
  have HRX : Hid (∀ (W : World) b T fr, W.heap[b]? = some (.cells (X.map U8).toArray T fr) → RdB W (.slice (some ⟨b, 0, none⟩) 32 32) X) := fun W b T fr h => rd_new256 h hXl
  obtain ⟨ck, hck⟩ : ∃ c, (key.map U8).toArray = c := ⟨_, rfl⟩
  obtain ⟨cX, hcX⟩ : ∃ c, (X.map U8).toArray = c := ⟨_, rfl⟩
  rw [hck] at HD HEX hsK ⊢
  rw [hcX] at HD HRX hsX hoX haX
  have HXL := Lib.hid hXl
  obtain ⟨S, hS⟩ : ∃ S, bytesOfS str = S := ⟨_, rfl⟩
  have hSl : S.length = str.size := by rw [← hS]; exact bytesOfS_length str
  have HGET : Hid (∀ i (h : i < str.size) (h2 : i < S.length), ((str[i]'h).toNat : Int) = ((S[i]'h2).toNat : Int)) := fun i h h2 => by
    have h8 : (str[i]'h).toNat < 256 := (str[i]'h).toNat_lt
    have := bytesOfS_get str i h
    simp only [hS] at this
    rw [this, BitVec.toNat_ofNat, Nat.mod_eq_of_lt h8]
  rw [hS] at HEX
  have HSL := Lib.hid hSl
  have HX64 := Lib.hid hx
  have d1 : ¬ ((str.size : Int) > 32) := by omega
  have d3 : ¬ ((n : Int) > 2147483647) := by omega
  clear hg hf hX hXl hck hcX hkl hbad hS hSl hx
  go_enter Tryd.func4, Tryd.ntmps4
  go_wp2_with (with_reducible refine arm_box (by with_unfolding_all exact rfl) ?_)
  intro b3 w3 hb3 k3 hU3 hz3
  change w3.heap[b3]? = some (.cells ck 23 (0, 0)) at k3
  go_wp2_with (with_reducible refine arm_load (by with_unfolding_all exact rfl) k3 Tryd.underlying23 (by with_unfolding_all exact rfl) hsK ?_)
  with_reducible refine (HD.out _ hU3).mono ?_
  rintro e w4 ⟨rfl, hU4⟩
  have hV4 := hU3.trans hU4
  have k34 := hU4.heap k3 (by simp)
  clear hb3 k3 hU3 hz3 hU4
  go_wp2_with (with_reducible refine arm_alloc (zero256 _) ?_)
  intro b7 w7 hb7 k7 hU7 hz7
  change w7.heap[b7]? = some (.cells (zrow8 32) 23 (0, 0)) at k7
  have hlt := lt_of_heap k34
  have hne : b3 ≠ b7 := by omega
  have hl7 : w.heap.size ≤ b7 := by have := hV4.size; omega
  have hV7 := hV4.trans hU7
  have k37 := hU7.heap k34 (by simp)
  clear hb7 hz7 hV4 hU7 k34 hlt
  go_wp2_with (with_reducible refine arm_store (by with_unfolding_all exact rfl) (by with_unfolding_all exact rfl) k7 hsX hoX haX ?_)
  intro w8 k8 hX8 hz8
  have hV8 := hV7.trans' hX8 (fun i hm hi => by simp at hm; omega)
  have k38 := hX8.heap k37 (by simpa using hne)
  obtain ⟨B, hB⟩ : ∃ B, w8.heap.size = B := ⟨_, rfl⟩
  have HB := Lib.hid hB
  have H38 := Lib.hid k38
  have H88 := Lib.hid k8
  have HV8 := Lib.hid hV8
  clear k7 hV7 hX8 hz8 k37 k38 k8 hV8 hB hne
  go_wp2_with (fail)
  go_loopw [9, 10] (fun v i wr => ∃ q : Nat, q ≤ str.size ∧ i = .int .i64 q ∧ OwnB wr B v (S.take q) ∧ Upd [] w8 wr) (fun _ i _ => str.size - (intOf i).toNat)
  case atStart => exact ⟨0, by omega, rfl, OwnB.nil _ _, Upd.refl _ _⟩
  case round =>
    obtain ⟨q, hq, rfl, hO, hU⟩ := hrel
    have HO := Lib.hid hO
    have HU := Lib.hid hU
    obtain ⟨wo, rfl⟩ : ∃ wo : World, wo = wr := ⟨_, rfl⟩
    have hbw : B ≤ wo.heap.size := by have := hU.size; have := HB.out; omega
    clear hO hU
    by_cases h : q < str.size
    · have h' : (q : Int) < (str.size : Int) := by omega
      have hSq : q < S.length := by rw [HSL.out]; exact h
      have hidx := HGET.out q h hSq
      obtain ⟨y, hy⟩ : ∃ y, S[q]'hSq = y := ⟨_, rfl⟩
      rw [hy] at hidx
      have HY := Lib.hid hy
      clear hy
      go_upto_region 7 with (first
        | (with_reducible refine bs1 (y := y) (by with_unfolding_all exact rfl) ?_; intro g5 w5 hg5 hr5 hU5)
        | (refine append_rd rfl _ _ rfl B u9 _ rfl (HO.out.upd0 hU5) (.slice (some ⟨g5, 0, none⟩) 1 1) [y] rfl hr5 (by have := HSL.out; simp; omega) (by have := hU5.size; omega) ?_; intro v6 w6 hO6 hO6' hU6 hG6))
      have hT6 := (HU.out.trans hU5).row hU6 (fun g hg => by have := (HO.out.lt g hg).1; have := HB.out; omega)
      have hO6 : OwnB w6 B v6 (S.take (q + 1)) := by
        have e : S.take q ++ [y] = S.take (q + 1) := by rw [List.take_succ_eq_append_getElem hSq, HY.out]
        rwa [← e]
      have H6 := Lib.hid hO6
      have HT6 := Lib.hid hT6
      clear hidx hO6 hT6 hr5 hU5 hO6' hU6 hG6
      go_wp2_with (fail)
      go_roundw
      case rel => exact ⟨q + 1, by omega, by go_num, H6.out, HT6.out⟩
      case measure => simp [intOf]; omega
    · obtain rfl : q = str.size := by omega
      have h' : ¬ ((str.size : Int) < (str.size : Int)) := by omega
      have hO : OwnB wo B u9 S := by have := HO.out; rwa [List.take_of_length_le (by rw [HSL.out]; omega)] at this
      have HOS := Lib.hid hO
      clear hO
      go_upto_region 10 with (first
        | (with_reducible refine bs1 (y := 0) (by with_unfolding_all exact rfl) ?_; intro g5 w5 hg5 hr5 hU5)
        | (refine append_rd rfl _ _ rfl B u9 _ rfl (HOS.out.upd0 hU5) (.slice (some ⟨g5, 0, none⟩) 1 1) [0] rfl hr5 (by have := HSL.out; simp; omega) (by have := hU5.size; omega) ?_; intro v6 w6 hO6 hO6' hU6 hG6))
      have hT6 := (HU.out.trans hU5).row hU6 (fun g hg => by have := (HOS.out.lt g hg).1; have := HB.out; omega)
      have H6 := Lib.hid hO6
      have HT6 := Lib.hid hT6
      clear hO6 hT6 hr5 hU5 hO6' hU6 hG6
      go_wp2_with (fail)
      go_loopw [9, 11] (fun v i wr => ∃ j : Nat, j ≤ 8 ∧ i = .int .i64 (56 - 8 * (j : Int)) ∧ OwnB wr B v (S ++ [0] ++ (tell64 x).take j) ∧ Upd [] w8 wr) (fun _ i _ => (intOf i + 8).toNat)
      case atStart => exact ⟨0, by omega, rfl, by simpa using H6.out, HT6.out⟩
      case round =>
        obtain ⟨j, hj, rfl, hO, hU⟩ := hrel
        have HO := Lib.hid hO
        have HU := Lib.hid hU
        obtain ⟨wo, rfl⟩ : ∃ wo : World, wo = wr := ⟨_, rfl⟩
        have hbw : B ≤ wo.heap.size := by have := hU.size; have := HB.out; omega
        clear hO hU
        by_cases h : j < 8
        · obtain ⟨k, hk⟩ : ∃ k : Nat, 56 - 8 * j = k := ⟨_, rfl⟩
          have hk' : (56 - 8 * (j : Int)) = (k : Int) := by omega
          have hk56 : k ≤ 56 := by omega
          have HK := Lib.hid hk
          have HK' := Lib.hid hk'
          rw [hk']
          clear hk hk'
          have hmod : k % 18446744073709551616 = k := Nat.mod_eq_of_lt (by omega)
          have hxe := HX64.out
          go_upto_region 12 with (first
            | (with_reducible refine bs1 (y := (x >>> k).setWidth 8) (by with_unfolding_all exact rfl) ?_; intro g7 w7 hg7 hr7 hU7)
            | (refine append_rd rfl _ _ rfl B u9 _ rfl (HO.out.upd0 hU7) (.slice (some ⟨g7, 0, none⟩) 1 1) [(x >>> k).setWidth 8] rfl hr7 (by have := HSL.out; have := tell64_length x; simp; omega) (by have := hU7.size; omega) ?_; intro v8 w9 hO8 hO8' hU8 hG8))
          have hT8 := (HU.out.trans hU7).row hU8 (fun g hg => by have := (HO.out.lt g hg).1; have := HB.out; omega)
          have hO8' : OwnB w9 B v8 (S ++ [0] ++ (tell64 x).take (j + 1)) := by
            rw [← tell64_snoc x j h, HK.out, ← List.append_assoc]; exact hO8
          have H8 := Lib.hid hO8'
          have HT8 := Lib.hid hT8
          clear hO8 hO8' hT8 hr7 hU7 hU8 hG8 hmod hxe
          go_wp2_with (fail)
          go_roundw
          case rel => exact ⟨j + 1, by omega, by have := HK'.out; go_num, H8.out, HT8.out⟩
          case measure => simp [intOf]; omega
        · obtain rfl : j = 8 := by omega
          have hO : OwnB wo B u9 (S ++ [0] ++ tell64 x) := by have := HO.out; rwa [List.take_of_length_le (by rw [tell64_length]; omega)] at this
          have hr := hO.rd
          have HR := Lib.hid hr
          have k3 := HU.out.heap H38.out (by simp)
          clear hO hr
          go_wp2_with (with_reducible refine arm_load (by with_unfolding_all exact rfl) k3 Tryd.underlying23 (by with_unfolding_all exact rfl) hsK ?_)
          with_reducible refine (HEX.out _ _ (HV8.out.trans HU.out) HR.out).mono ?_
          rintro e w9 ⟨v9, rfl, hN9, hU9⟩
          have hV9 := (HV8.out.trans HU.out).trans hU9
          have hr9 := hN9.1
          have hb9 := HRX.out _ _ _ _ ((HU.out.trans hU9).heap H88.out (by simp))
          have hS9 := same04 w9 v9 _ X X (hr9.readPos (by rw [HXL.out]; omega)) (hb9.readPos (by rw [HXL.out]; omega)) (by rw [HXL.out]; omega) (by rw [HXL.out]; omega)
          simp only [beq_self_eq_true] at hS9
          have HS9 := Lib.hid hS9
          clear hN9 hr9 hb9 hU9 hS9 k3
          go_wp2_with (fail)
          with_reducible refine HS9.out.mono ?_
          rintro e w10 ⟨rfl, q10, rfl⟩
          go_wp2_with (fail)
          go_ret
          exact ⟨rfl, hV9.drewN q10⟩
end Go.Proofs.YtgpieipflidkpaaDoor
