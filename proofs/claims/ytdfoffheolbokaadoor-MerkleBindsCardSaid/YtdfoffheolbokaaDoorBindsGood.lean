/-
  The law MerkleBinds: its good case, and the law.
-/
import Derived.Test.YtdfoffheolbokaaDoorLawBinds16
namespace Go.Proofs.YtdfoffheolbokaaDoor
open Go Go.RowKit Go.Proofs
theorem node_pair (a : H8) (R : List Bool) (P : List H8) (j : Nat) (x : H8 × H8) (hR : j < R.length) (e : R.length = P.length) (hx : (pairsOf a R P)[j]? = some x) : nodeH x.1 x.2 = climbH a (R.take (j + 1)) (P.take (j + 1)) := by
  rw [pairsOf_get a R P j hR (by omega) e] at hx
  rw [climbH_take a R P j hR (by omega)]
  have := Option.some.inj hx
  cases hb : R[j]'hR with
  | true => rw [hb] at this; simp only [if_true] at this; rw [← this]; simp [stepH]
  | false => rw [hb] at this; simp only [Bool.false_eq_true, if_false] at this; rw [← this]; simp [stepH]
theorem wpQuiet_valK {P : Program} {ops : Array Oper} {C : World → Prop} {Q : Act → Prop} {a : Act} {o : Oper} {rest : List Oper} {v : Value} (hw : Region.wanted o (yielded ops a.tmps) = true) (h : ∀ w, C w → o.quietAt P a C w v)
    (hn : ∀ K : Act → Prop, (∀ a, wpQuiet P ops C Q rest a → K a) → K (a.put o.dst v)) : wpQuiet P ops C Q (o :: rest) a := wpQuiet_val hw h (hn _ fun _ h => h)
set_option maxRecDepth 100000 in
set_option maxHeartbeats 25600000 in
theorem binds_good (w : World) (pv qv : Value) (a b root : H8) (P Q : List H8) (i n : Nat) (hla : a.length = 32) (hlb : b.length = 32) (hlr : root.length = 32) (hi : i < n) (hn : n ≤ 65536) (hp : RdH w pv P) (hq : RdH w qv Q) (hpl : P.length ≤ 200) (hql : Q.length ≤ 200) (hg : Gl256 w) (hf : GlFirst256 w) :
    Calls Tryd.prog 6 #[.agg (a.map U8).toArray, pv, .agg (b.map U8).toArray, qv, .int .i64 i, .int .i64 n, .agg (root.map U8).toArray] w fun e w' => e = .returned (.bool true) ∧ Upd [] w w' := by
  obtain ⟨A, c, e, hc1, hc2⟩ := hp.isSlice
  obtain ⟨D, c2, e2, hd1, hd2⟩ := hq.isSlice
  have d1 : decide ((n : Int) < 1) = false := by simp; omega
  have d2 : decide ((n : Int) > 65536) = false := by simp; omega
  have d3 : decide ((i : Int) < 0) = false := by simp
  have d4 : decide ((i : Int) ≥ (n : Int)) = false := by simp; omega
  have d4n : decide (n ≤ i) = false := by simp; omega
  have q1 : decide ((P.length : Int) > 200) = false := by simp; omega
  have q2 : decide ((Q.length : Int) > 200) = false := by simp; omega
  obtain ⟨S, hS⟩ : ∃ S, sidesDown i n = S := ⟨_, rfl⟩
  have HC1 : Hid (∀ W, Upd [] w W → Calls Tryd.prog 22 #[.agg (a.map U8).toArray, .int .i64 i, .int .i64 n, pv] W fun e w' => Climbed W.heap.size P.length W S a P e w') := fun W hW => by rw [← hS]; exact climbed_ W a i n pv P hla hi hn (hp.upd0 hW) (by omega) (hg.upd hW (by simp)) (hf.upd hW (by simp))
  have HC2 : Hid (∀ W, Upd [] w W → Calls Tryd.prog 22 #[.agg (b.map U8).toArray, .int .i64 i, .int .i64 n, qv] W fun e w' => Climbed W.heap.size Q.length W S b Q e w') := fun W hW => by rw [← hS]; exact climbed_ W b i n qv Q hlb hi hn (hq.upd0 hW) (by omega) (hg.upd hW (by simp)) (hf.upd hW (by simp))
  have HK1 : Hid (∀ W, Upd [] w W → Calls Tryd.prog 21 #[.agg (a.map U8).toArray, .int .i64 i, .int .i64 n, pv, .agg (root.map U8).toArray] W fun e w' => e = .returned (.bool (S.length == P.length && climbH a S.reverse P == root)) ∧ Upd [] W w') := fun W hW => by rw [← hS]; exact checkI_any W a root i n pv P hla hlr hi hn (hp.upd0 hW) (hg.upd hW (by simp)) (hf.upd hW (by simp))
  have HK2 : Hid (∀ W, Upd [] w W → Calls Tryd.prog 21 #[.agg (b.map U8).toArray, .int .i64 i, .int .i64 n, qv, .agg (root.map U8).toArray] W fun e w' => e = .returned (.bool (S.length == Q.length && climbH b S.reverse Q == root)) ∧ Upd [] W w') := fun W hW => by rw [← hS]; exact checkI_any W b root i n qv Q hlb hlr hi hn (hq.upd0 hW) (hg.upd hW (by simp)) (hf.upd hW (by simp))
  have HEN : Hid (∀ W (x : H8) (v : Value) (R : List Bool) (O : List H8) (B : Nat), x.length = 32 → R.length = O.length → O.length ≤ 200 → Upd [] w W → OwnP W B v (pairsOf x R O) → Calls Tryd.prog 23 #[.agg (x.map U8).toArray, v] W fun e w' => e = .returned (.agg ((climbH x R O).map U8).toArray) ∧ Upd [] W w') := fun W x v R O B hx hRO hO hW hO2 => by
    rw [← endsOf_pairs x R O hRO]
    exact ends_ W B x v _ hx hO2 (by rw [pairsOf_length _ _ _ hRO]; omega) (hg.upd hW (by simp)) (hf.upd hW (by simp))
  have HND : Hid (∀ W (x y : H8), x.length = 32 → y.length = 32 → Upd [] w W → Calls Tryd.prog 20 #[.agg (x.map U8).toArray, .agg (y.map U8).toArray] W fun e w' => e = .returned (.agg ((nodeH x y).map U8).toArray) ∧ Upd [] W w') := fun W x y hx hy hW => node_ W x y hx hy (hg.upd hW (by simp)) (hf.upd hW (by simp))
  have HSM : Hid (P = Q → ∀ W, Upd [] w W → Calls Tryd.prog 24 #[pv, qv] W fun e w' => e = .returned (.bool true) ∧ Upd [] W w') := fun ePQ W hW => by
    have := sameH W pv qv P Q (hp.upd0 hW) (hq.upd0 hW) (by omega) (by omega)
    rwa [show (P == Q) = true by rw [ePQ]; simp] at this
  have HLA := Lib.hid hla
  have HLB := Lib.hid hlb
  have HLR := Lib.hid hlr
  have HPL := Lib.hid hpl
  have HQL := Lib.hid hql
  have hgd := guard_h32
  have hsa := szrow hla
  have hsb := szrow hlb
  have hst := szrow hlr
  rw [e] at HC1 HK1 HSM ⊢
  rw [e2] at HC2 HK2 HSM ⊢
  obtain ⟨m, hm⟩ : ∃ m, P.length = m := ⟨_, rfl⟩
  obtain ⟨m2, hm2⟩ : ∃ m, Q.length = m := ⟨_, rfl⟩
  rw [hm] at HC1 HK1 HSM q1 ⊢
  rw [hm2] at HC2 HK2 HSM q2 ⊢
  have HM := Lib.hid hm
  have HM2 := Lib.hid hm2
  obtain ⟨ca, hca⟩ : ∃ c, (a.map U8).toArray = c := ⟨_, rfl⟩
  obtain ⟨cb, hcb⟩ : ∃ c, (b.map U8).toArray = c := ⟨_, rfl⟩
  obtain ⟨ct, hct⟩ : ∃ c, (root.map U8).toArray = c := ⟨_, rfl⟩
  rw [hca] at HC1 HK1 hsa ⊢
  rw [hcb] at HC2 HK2 hsb ⊢
  rw [hct] at HK1 HK2 hst ⊢
  have HCA := Lib.hid hca
  have HCB := Lib.hid hcb
  have HCT := Lib.hid hct
  clear hp hq hla hlb hlr hpl hql hg hf hS hm hm2 hca hcb hct e e2 hi hn hc1 hc2 hd1 hd2
  go_enter Tryd.func6, Tryd.ntmps6
  go_wp2_with (with_reducible refine arm_box (by with_unfolding_all exact rfl) ?_)
  intro b7 w7 hb7 k7 hU7 hz7
  change w7.heap[b7]? = some (.cells ca 27 (0, 0)) at k7
  go_wp2_with (with_reducible refine arm_box (by with_unfolding_all exact rfl) ?_)
  intro b9 w9 hb9 k9 hU9 hz9
  change w9.heap[b9]? = some (.cells cb 27 (0, 0)) at k9
  have k79 := hU9.heap k7 (by simp)
  have hV9 := hU7.trans hU9
  go_wp2_with (with_reducible refine arm_box (by with_unfolding_all exact rfl) ?_)
  intro b13 w13 hb13 k13 hU13 hz13
  change w13.heap[b13]? = some (.cells ct 27 (0, 0)) at k13
  clear k7
  have k7 := hU13.heap k79 (by simp)
  clear k79
  have k9' := hU13.heap k9 (by simp)
  clear k9
  have k9 := k9'
  clear k9'
  have hV13 := hV9.trans hU13
  clear hb7 hU7 hz7 hb9 hU9 hz9 hb13 hU13 hz13 hV9
  go_wp2_with (with_reducible refine arm_load (by with_unfolding_all exact rfl) k7 Tryd.underlying27 (by with_unfolding_all exact rfl) hsa ?_)
  with_reducible refine (HC1.out _ hV13).mono ?_
  rintro e w14 ⟨u, b16, rfl, hb16, ho1, ho0, hU14⟩
  have tk7 := hU14.heap k7 (by simp)
  have tk9 := hU14.heap k9 (by simp)
  have tk13 := hU14.heap k13 (by simp)
  clear k7 k9 k13
  have k7 := tk7
  have k9 := tk9
  have k13 := tk13
  clear tk7 tk9 tk13
  have hV14 := hV13.trans hU14
  have HB16 := Lib.hid hb16
  have HO1 := Lib.hid ho1
  have HO0 := Lib.hid ho0
  clear hV13 hU14 hb16 ho1 ho0
  go_wp2_with (with_reducible refine arm_load (by with_unfolding_all exact rfl) k9 Tryd.underlying27 (by with_unfolding_all exact rfl) hsb ?_)
  with_reducible refine (HC2.out _ hV14).mono ?_
  rintro e w15 ⟨v, b18, rfl, hb18, hp1, hp0, hU15⟩
  have tk7 := hU15.heap k7 (by simp)
  have tk9 := hU15.heap k9 (by simp)
  have tk13 := hU15.heap k13 (by simp)
  clear k7 k9 k13
  have k7 := tk7
  have k9 := tk9
  have k13 := tk13
  clear tk7 tk9 tk13
  have hV15 := hV14.trans hU15
  have HB18 := Lib.hid hb18
  have HP1 : Hid (b16 = true → OwnP w15 w13.heap.size u (pairsOf a S.reverse P)) := fun h => (HO1.out h).upd0 hU15
  have HP2 := Lib.hid hp1
  clear hV14 hU15 hb18 hp1 hp0 HO1
  have HW15 := Lib.hid hV15
  cases b16
  · cases b18
    · have hx1 : (S.length == m) = false := HB16.out.symm
      rw [hx1] at HK1
      have HK1q : Hid (∀ W, Upd [] w15 W → Calls Tryd.prog 21 #[.agg ca, .int .i64 i, .int .i64 n, .slice A m c, .agg ct] W fun e w' => e = .returned (.bool false) ∧ Upd [] W w') := fun W hW => by
        have := HK1.out W (HW15.out.trans hW)
        rwa [Bool.false_and] at this
      clear HK1 hx1
      have hx2 : (S.length == m2) = false := HB18.out.symm
      rw [hx2] at HK2
      have HK2q : Hid (∀ W, Upd [] w15 W → Calls Tryd.prog 21 #[.agg cb, .int .i64 i, .int .i64 n, .slice D m2 c2, .agg ct] W fun e w' => e = .returned (.bool false) ∧ Upd [] W w') := fun W hW => by
        have := HK2.out W (HW15.out.trans hW)
        rwa [Bool.false_and] at this
      clear HK2 hx2
      go_wp2_with (fail)
      have HQ7 : Hid (∀ W', Upd [] w15 W' → ∃ t fr, W'.heap[b7]? = some (.cells ca t fr)) := fun W' h => ⟨_, _, h.heap k7 (by simp)⟩
      have HQ9 : Hid (∀ W', Upd [] w15 W' → ∃ t fr, W'.heap[b9]? = some (.cells cb t fr)) := fun W' h => ⟨_, _, h.heap k9 (by simp)⟩
      have HQ13 : Hid (∀ W', Upd [] w15 W' → ∃ t fr, W'.heap[b13]? = some (.cells ct t fr)) := fun W' h => ⟨_, _, h.heap k13 (by simp)⟩
      refine wp_region_quiet_all (Upd [] w15) (by kernel_rfl) (by kernel_rfl) (Upd.refl _ _).drew ?_
      repeat (first
        | go_big_quiet_skip
        | (refine wpQuiet_valK rfl (quiet_load_row 27 _ rfl b7 rfl _ HQ7.out Tryd.underlying27 rfl hsa) (fun K hK => ?_); go_simp; refine hK _ ?_; clear hK K)
        | (refine wpQuiet_valK rfl (quiet_load_row 27 _ rfl b9 rfl _ HQ9.out Tryd.underlying27 rfl hsb) (fun K hK => ?_); go_simp; refine hK _ ?_; clear hK K)
        | (refine wpQuiet_valK rfl (quiet_load_row 27 _ rfl b13 rfl _ HQ13.out Tryd.underlying27 rfl hst) (fun K hK => ?_); go_simp; refine hK _ ?_; clear hK K)
        | go_big_quiet_step ((intro hw2; first
            | rfl
            | ((with_reducible refine (HK1q.out _ hw2).mono ?_); exact fun e w' h => ⟨h.1, hw2.trans h.2⟩)
            | ((with_reducible refine (HK2q.out _ hw2).mono ?_); exact fun e w' h => ⟨h.1, hw2.trans h.2⟩)
            )))
      refine wpQuiet_nil ?_
      intro w16 hUw16
      have tk7 := hUw16.heap k7 (by simp)
      have tk9 := hUw16.heap k9 (by simp)
      have tk13 := hUw16.heap k13 (by simp)
      clear k7 k9 k13
      have k7 := tk7
      have k9 := tk9
      have k13 := tk13
      clear tk7 tk9 tk13
      have hV16 := hV15.trans hUw16
      clear HQ7 HQ9 HQ13 HK1q HK2q
      clear hV15 hUw16
      go_wp2_with (fail)
      go_quiet (skip)
      rename Nat => nq
      have hV17 := hV16.drewN nq
      clear hV16
      go_wp2_with (fail)
      go_ret
      exact ⟨rfl, hV17⟩
    · have hx1 : (S.length == m) = false := HB16.out.symm
      rw [hx1] at HK1
      have HK1q : Hid (∀ W, Upd [] w15 W → Calls Tryd.prog 21 #[.agg ca, .int .i64 i, .int .i64 n, .slice A m c, .agg ct] W fun e w' => e = .returned (.bool false) ∧ Upd [] W w') := fun W hW => by
        have := HK1.out W (HW15.out.trans hW)
        rwa [Bool.false_and] at this
      clear HK1 hx1
      have hx2 : (S.length == m2) = true := HB18.out.symm
      have Lx2 : S.reverse.length = Q.length := by have := HM2.out; simp at hx2 ⊢; omega
      have HE2 : Hid (∀ W, Upd [] w15 W → Calls Tryd.prog 23 #[.agg (b.map U8).toArray, v] W fun e w' => e = .returned (.agg ((climbH b S.reverse Q).map U8).toArray) ∧ Upd [] W w') := fun W hW => HEN.out W b v S.reverse Q _ HLB.out Lx2 HQL.out (HW15.out.trans hW) ((HP2.out rfl).upd0 hW)
      rw [hx2] at HK2
      have hqx2 := fun W => eql_h32 (climbH b S.reverse Q) root (climbH_len _ _ _ HLB.out) HLR.out W
      obtain ⟨E2, hE2⟩ : ∃ bz, (climbH b S.reverse Q == root) = bz := ⟨_, rfl⟩
      rw [hE2] at hqx2
      have HK2q : Hid (∀ W, Upd [] w15 W → Calls Tryd.prog 21 #[.agg cb, .int .i64 i, .int .i64 n, .slice D m2 c2, .agg ct] W fun e w' => e = .returned (.bool E2) ∧ Upd [] W w') := fun W hW => by
        have := HK2.out W (HW15.out.trans hW)
        rwa [hE2, Bool.true_and] at this
      have hnx2 : (E2 != E2) = false := by simp
      rw [HCB.out] at HE2
      rw [HCT.out] at hqx2
      clear HK2 hE2 hx2
      have HLx2 := Lib.hid Lx2
      clear Lx2
      obtain ⟨cF, hcF⟩ : ∃ c, ((climbH b S.reverse Q).map U8).toArray = c := ⟨_, rfl⟩
      rw [hcF] at HE2 hqx2
      have HCF := Lib.hid hcF
      clear hcF
      go_wp2_with (fail)
      have HQ7 : Hid (∀ W', Upd [] w15 W' → ∃ t fr, W'.heap[b7]? = some (.cells ca t fr)) := fun W' h => ⟨_, _, h.heap k7 (by simp)⟩
      have HQ9 : Hid (∀ W', Upd [] w15 W' → ∃ t fr, W'.heap[b9]? = some (.cells cb t fr)) := fun W' h => ⟨_, _, h.heap k9 (by simp)⟩
      have HQ13 : Hid (∀ W', Upd [] w15 W' → ∃ t fr, W'.heap[b13]? = some (.cells ct t fr)) := fun W' h => ⟨_, _, h.heap k13 (by simp)⟩
      refine wp_region_quiet_all (Upd [] w15) (by kernel_rfl) (by kernel_rfl) (Upd.refl _ _).drew ?_
      repeat (first
        | go_big_quiet_skip
        | (refine wpQuiet_valK rfl (quiet_load_row 27 _ rfl b7 rfl _ HQ7.out Tryd.underlying27 rfl hsa) (fun K hK => ?_); go_simp; refine hK _ ?_; clear hK K)
        | (refine wpQuiet_valK rfl (quiet_load_row 27 _ rfl b9 rfl _ HQ9.out Tryd.underlying27 rfl hsb) (fun K hK => ?_); go_simp; refine hK _ ?_; clear hK K)
        | (refine wpQuiet_valK rfl (quiet_load_row 27 _ rfl b13 rfl _ HQ13.out Tryd.underlying27 rfl hst) (fun K hK => ?_); go_simp; refine hK _ ?_; clear hK K)
        | go_big_quiet_step ((intro hw2; first
            | rfl
            | ((with_reducible refine (HK1q.out _ hw2).mono ?_); exact fun e w' h => ⟨h.1, hw2.trans h.2⟩)
            | ((with_reducible refine (HK2q.out _ hw2).mono ?_); exact fun e w' h => ⟨h.1, hw2.trans h.2⟩)
            | ((with_reducible refine (HE2.out _ hw2).mono ?_); exact fun e w' h => ⟨h.1, hw2.trans h.2⟩)
            )))
      refine wpQuiet_nil ?_
      intro w16 hUw16
      have tk7 := hUw16.heap k7 (by simp)
      have tk9 := hUw16.heap k9 (by simp)
      have tk13 := hUw16.heap k13 (by simp)
      clear k7 k9 k13
      have k7 := tk7
      have k9 := tk9
      have k13 := tk13
      clear tk7 tk9 tk13
      have hV16 := hV15.trans hUw16
      clear HQ7 HQ9 HQ13 HK1q HK2q
      clear hV15 hUw16 HE2 hqx2 hnx2
      go_wp2_with (fail)
      go_quiet (skip)
      rename Nat => nq
      have hV17 := hV16.drewN nq
      clear hV16
      go_wp2_with (fail)
      go_ret
      exact ⟨rfl, hV17⟩
  · cases b18
    · have hx1 : (S.length == m) = true := HB16.out.symm
      have Lx1 : S.reverse.length = P.length := by have := HM.out; simp at hx1 ⊢; omega
      have HE1 : Hid (∀ W, Upd [] w15 W → Calls Tryd.prog 23 #[.agg (a.map U8).toArray, u] W fun e w' => e = .returned (.agg ((climbH a S.reverse P).map U8).toArray) ∧ Upd [] W w') := fun W hW => HEN.out W a u S.reverse P _ HLA.out Lx1 HPL.out (HW15.out.trans hW) ((HP1.out rfl).upd0 hW)
      rw [hx1] at HK1
      have hqx1 := fun W => eql_h32 (climbH a S.reverse P) root (climbH_len _ _ _ HLA.out) HLR.out W
      obtain ⟨E1, hE1⟩ : ∃ bz, (climbH a S.reverse P == root) = bz := ⟨_, rfl⟩
      rw [hE1] at hqx1
      have HK1q : Hid (∀ W, Upd [] w15 W → Calls Tryd.prog 21 #[.agg ca, .int .i64 i, .int .i64 n, .slice A m c, .agg ct] W fun e w' => e = .returned (.bool E1) ∧ Upd [] W w') := fun W hW => by
        have := HK1.out W (HW15.out.trans hW)
        rwa [hE1, Bool.true_and] at this
      have hnx1 : (E1 != E1) = false := by simp
      rw [HCA.out] at HE1
      rw [HCT.out] at hqx1
      clear HK1 hE1 hx1
      have HLx1 := Lib.hid Lx1
      clear Lx1
      have hx2 : (S.length == m2) = false := HB18.out.symm
      rw [hx2] at HK2
      have HK2q : Hid (∀ W, Upd [] w15 W → Calls Tryd.prog 21 #[.agg cb, .int .i64 i, .int .i64 n, .slice D m2 c2, .agg ct] W fun e w' => e = .returned (.bool false) ∧ Upd [] W w') := fun W hW => by
        have := HK2.out W (HW15.out.trans hW)
        rwa [Bool.false_and] at this
      clear HK2 hx2
      obtain ⟨cE, hcE⟩ : ∃ c, ((climbH a S.reverse P).map U8).toArray = c := ⟨_, rfl⟩
      rw [hcE] at HE1 hqx1
      have HCE := Lib.hid hcE
      clear hcE
      go_wp2_with (fail)
      have HQ7 : Hid (∀ W', Upd [] w15 W' → ∃ t fr, W'.heap[b7]? = some (.cells ca t fr)) := fun W' h => ⟨_, _, h.heap k7 (by simp)⟩
      have HQ9 : Hid (∀ W', Upd [] w15 W' → ∃ t fr, W'.heap[b9]? = some (.cells cb t fr)) := fun W' h => ⟨_, _, h.heap k9 (by simp)⟩
      have HQ13 : Hid (∀ W', Upd [] w15 W' → ∃ t fr, W'.heap[b13]? = some (.cells ct t fr)) := fun W' h => ⟨_, _, h.heap k13 (by simp)⟩
      refine wp_region_quiet_all (Upd [] w15) (by kernel_rfl) (by kernel_rfl) (Upd.refl _ _).drew ?_
      repeat (first
        | go_big_quiet_skip
        | (refine wpQuiet_valK rfl (quiet_load_row 27 _ rfl b7 rfl _ HQ7.out Tryd.underlying27 rfl hsa) (fun K hK => ?_); go_simp; refine hK _ ?_; clear hK K)
        | (refine wpQuiet_valK rfl (quiet_load_row 27 _ rfl b9 rfl _ HQ9.out Tryd.underlying27 rfl hsb) (fun K hK => ?_); go_simp; refine hK _ ?_; clear hK K)
        | (refine wpQuiet_valK rfl (quiet_load_row 27 _ rfl b13 rfl _ HQ13.out Tryd.underlying27 rfl hst) (fun K hK => ?_); go_simp; refine hK _ ?_; clear hK K)
        | go_big_quiet_step ((intro hw2; first
            | rfl
            | ((with_reducible refine (HK1q.out _ hw2).mono ?_); exact fun e w' h => ⟨h.1, hw2.trans h.2⟩)
            | ((with_reducible refine (HK2q.out _ hw2).mono ?_); exact fun e w' h => ⟨h.1, hw2.trans h.2⟩)
            | ((with_reducible refine (HE1.out _ hw2).mono ?_); exact fun e w' h => ⟨h.1, hw2.trans h.2⟩)
            )))
      refine wpQuiet_nil ?_
      intro w16 hUw16
      have tk7 := hUw16.heap k7 (by simp)
      have tk9 := hUw16.heap k9 (by simp)
      have tk13 := hUw16.heap k13 (by simp)
      clear k7 k9 k13
      have k7 := tk7
      have k9 := tk9
      have k13 := tk13
      clear tk7 tk9 tk13
      have hV16 := hV15.trans hUw16
      clear HQ7 HQ9 HQ13 HK1q HK2q
      clear hV15 hUw16 HE1 hqx1 hnx1 
      go_wp2_with (fail)
      go_quiet (skip)
      rename Nat => nq
      have hV17 := hV16.drewN nq
      clear hV16
      go_wp2_with (fail)
      go_ret
      exact ⟨rfl, hV17⟩
    · have hx1 : (S.length == m) = true := HB16.out.symm
      have Lx1 : S.reverse.length = P.length := by have := HM.out; simp at hx1 ⊢; omega
      have HE1 : Hid (∀ W, Upd [] w15 W → Calls Tryd.prog 23 #[.agg (a.map U8).toArray, u] W fun e w' => e = .returned (.agg ((climbH a S.reverse P).map U8).toArray) ∧ Upd [] W w') := fun W hW => HEN.out W a u S.reverse P _ HLA.out Lx1 HPL.out (HW15.out.trans hW) ((HP1.out rfl).upd0 hW)
      rw [hx1] at HK1
      have hqx1 := fun W => eql_h32 (climbH a S.reverse P) root (climbH_len _ _ _ HLA.out) HLR.out W
      obtain ⟨E1, hE1⟩ : ∃ bz, (climbH a S.reverse P == root) = bz := ⟨_, rfl⟩
      rw [hE1] at hqx1
      have HK1q : Hid (∀ W, Upd [] w15 W → Calls Tryd.prog 21 #[.agg ca, .int .i64 i, .int .i64 n, .slice A m c, .agg ct] W fun e w' => e = .returned (.bool E1) ∧ Upd [] W w') := fun W hW => by
        have := HK1.out W (HW15.out.trans hW)
        rwa [hE1, Bool.true_and] at this
      have hnx1 : (E1 != E1) = false := by simp
      rw [HCA.out] at HE1
      rw [HCT.out] at hqx1
      clear HK1 hE1 hx1
      have HLx1 := Lib.hid Lx1
      clear Lx1
      have hx2 : (S.length == m2) = true := HB18.out.symm
      have Lx2 : S.reverse.length = Q.length := by have := HM2.out; simp at hx2 ⊢; omega
      have HE2 : Hid (∀ W, Upd [] w15 W → Calls Tryd.prog 23 #[.agg (b.map U8).toArray, v] W fun e w' => e = .returned (.agg ((climbH b S.reverse Q).map U8).toArray) ∧ Upd [] W w') := fun W hW => HEN.out W b v S.reverse Q _ HLB.out Lx2 HQL.out (HW15.out.trans hW) ((HP2.out rfl).upd0 hW)
      rw [hx2] at HK2
      have hqx2 := fun W => eql_h32 (climbH b S.reverse Q) root (climbH_len _ _ _ HLB.out) HLR.out W
      obtain ⟨E2, hE2⟩ : ∃ bz, (climbH b S.reverse Q == root) = bz := ⟨_, rfl⟩
      rw [hE2] at hqx2
      have HK2q : Hid (∀ W, Upd [] w15 W → Calls Tryd.prog 21 #[.agg cb, .int .i64 i, .int .i64 n, .slice D m2 c2, .agg ct] W fun e w' => e = .returned (.bool E2) ∧ Upd [] W w') := fun W hW => by
        have := HK2.out W (HW15.out.trans hW)
        rwa [hE2, Bool.true_and] at this
      have hnx2 : (E2 != E2) = false := by simp
      rw [HCB.out] at HE2
      rw [HCT.out] at hqx2
      clear HK2 hE2 hx2
      have HLx2 := Lib.hid Lx2
      clear Lx2
      obtain ⟨cE, hcE⟩ : ∃ c, ((climbH a S.reverse P).map U8).toArray = c := ⟨_, rfl⟩
      rw [hcE] at HE1 hqx1
      have HCE := Lib.hid hcE
      clear hcE
      obtain ⟨cF, hcF⟩ : ∃ c, ((climbH b S.reverse Q).map U8).toArray = c := ⟨_, rfl⟩
      rw [hcF] at HE2 hqx2
      have HCF := Lib.hid hcF
      clear hcF
      go_wp2_with (fail)
      have HQ7 : Hid (∀ W', Upd [] w15 W' → ∃ t fr, W'.heap[b7]? = some (.cells ca t fr)) := fun W' h => ⟨_, _, h.heap k7 (by simp)⟩
      have HQ9 : Hid (∀ W', Upd [] w15 W' → ∃ t fr, W'.heap[b9]? = some (.cells cb t fr)) := fun W' h => ⟨_, _, h.heap k9 (by simp)⟩
      have HQ13 : Hid (∀ W', Upd [] w15 W' → ∃ t fr, W'.heap[b13]? = some (.cells ct t fr)) := fun W' h => ⟨_, _, h.heap k13 (by simp)⟩
      refine wp_region_quiet_all (Upd [] w15) (by kernel_rfl) (by kernel_rfl) (Upd.refl _ _).drew ?_
      repeat (first
        | go_big_quiet_skip
        | (refine wpQuiet_valK rfl (quiet_load_row 27 _ rfl b7 rfl _ HQ7.out Tryd.underlying27 rfl hsa) (fun K hK => ?_); go_simp; refine hK _ ?_; clear hK K)
        | (refine wpQuiet_valK rfl (quiet_load_row 27 _ rfl b9 rfl _ HQ9.out Tryd.underlying27 rfl hsb) (fun K hK => ?_); go_simp; refine hK _ ?_; clear hK K)
        | (refine wpQuiet_valK rfl (quiet_load_row 27 _ rfl b13 rfl _ HQ13.out Tryd.underlying27 rfl hst) (fun K hK => ?_); go_simp; refine hK _ ?_; clear hK K)
        | go_big_quiet_step ((intro hw2; first
            | rfl
            | ((with_reducible refine (HK1q.out _ hw2).mono ?_); exact fun e w' h => ⟨h.1, hw2.trans h.2⟩)
            | ((with_reducible refine (HK2q.out _ hw2).mono ?_); exact fun e w' h => ⟨h.1, hw2.trans h.2⟩)
            | ((with_reducible refine (HE1.out _ hw2).mono ?_); exact fun e w' h => ⟨h.1, hw2.trans h.2⟩)
            | ((with_reducible refine (HE2.out _ hw2).mono ?_); exact fun e w' h => ⟨h.1, hw2.trans h.2⟩)
            )))
      refine wpQuiet_nil ?_
      intro w16 hUw16
      have tk7 := hUw16.heap k7 (by simp)
      have tk9 := hUw16.heap k9 (by simp)
      have tk13 := hUw16.heap k13 (by simp)
      clear k7 k9 k13
      have k7 := tk7
      have k9 := tk9
      have k13 := tk13
      clear tk7 tk9 tk13
      have hV16 := hV15.trans hUw16
      clear HQ7 HQ9 HQ13 HK1q HK2q
      have HE1b : Hid (∀ W, Upd [] w16 W → Calls Tryd.prog 23 #[.agg ca, u] W fun e w' => e = .returned (.agg cE) ∧ Upd [] W w') := fun W hW => HE1.out W (hUw16.trans hW)
      have HE2b : Hid (∀ W, Upd [] w16 W → Calls Tryd.prog 23 #[.agg cb, v] W fun e w' => e = .returned (.agg cF) ∧ Upd [] W w') := fun W hW => HE2.out W (hUw16.trans hW)
      have hnn := fun W => neq_h32 (climbH a S.reverse P) (climbH b S.reverse Q) (climbH_len _ _ _ HLA.out) (climbH_len _ _ _ HLB.out) W
      rw [HCE.out, HCF.out] at hnn
      obtain ⟨DD, hDD⟩ : ∃ bz, (climbH a S.reverse P != climbH b S.reverse Q) = bz := ⟨_, rfl⟩
      rw [hDD] at hnn
      have HDD := Lib.hid hDD
      have HPA := Lib.hid ((HP1.out (by simp)).upd0 hUw16)
      have HPB := Lib.hid ((HP2.out (by simp)).upd0 hUw16)
      clear hDD HE1 HE2 hqx1 hqx2 hnx1 hnx2 HC1 HC2 HEN HP1 HP2 hV15 hUw16 HW15
      go_wp2_with (fail)
      have HQ7 : Hid (∀ W', Upd [] w16 W' → ∃ t fr, W'.heap[b7]? = some (.cells ca t fr)) := fun W' h => ⟨_, _, h.heap k7 (by simp)⟩
      have HQ9 : Hid (∀ W', Upd [] w16 W' → ∃ t fr, W'.heap[b9]? = some (.cells cb t fr)) := fun W' h => ⟨_, _, h.heap k9 (by simp)⟩
      have HQ13 : Hid (∀ W', Upd [] w16 W' → ∃ t fr, W'.heap[b13]? = some (.cells ct t fr)) := fun W' h => ⟨_, _, h.heap k13 (by simp)⟩
      refine wp_region_quiet_all (Upd [] w16) (by kernel_rfl) (by kernel_rfl) (Upd.refl _ _).drew ?_
      repeat (first
        | go_big_quiet_skip
        | (refine wpQuiet_valK rfl (quiet_load_row 27 _ rfl b7 rfl _ HQ7.out Tryd.underlying27 rfl hsa) (fun K hK => ?_); go_simp; refine hK _ ?_; clear hK K)
        | (refine wpQuiet_valK rfl (quiet_load_row 27 _ rfl b9 rfl _ HQ9.out Tryd.underlying27 rfl hsb) (fun K hK => ?_); go_simp; refine hK _ ?_; clear hK K)
        | (refine wpQuiet_valK rfl (quiet_load_row 27 _ rfl b13 rfl _ HQ13.out Tryd.underlying27 rfl hst) (fun K hK => ?_); go_simp; refine hK _ ?_; clear hK K)
        | go_big_quiet_step ((intro hw2; first
            | rfl
            | ((with_reducible refine (HE1b.out _ hw2).mono ?_); exact fun e w' h => ⟨h.1, hw2.trans h.2⟩)
            | ((with_reducible refine (HE2b.out _ hw2).mono ?_); exact fun e w' h => ⟨h.1, hw2.trans h.2⟩)
            )))
      refine wpQuiet_nil ?_
      intro w17 hUw17
      have tk7 := hUw17.heap k7 (by simp)
      have tk9 := hUw17.heap k9 (by simp)
      have tk13 := hUw17.heap k13 (by simp)
      clear k7 k9 k13
      have k7 := tk7
      have k9 := tk9
      have k13 := tk13
      clear tk7 tk9 tk13
      have hV17 := hV16.trans hUw17
      have HPA2 := Lib.hid (HPA.out.upd0 hUw17)
      have HPB2 := Lib.hid (HPB.out.upd0 hUw17)
      clear HQ7 HQ9 HQ13 HE1b HE2b hV16 hUw17 HPA HPB HCE HCF hnn
      cases DD
      rotate_left
      · go_wp2_with (fail)
        go_ret
        exact ⟨rfl, hV17⟩
      have HEQ : Hid (climbH a S.reverse P = climbH b S.reverse Q) := by
        have h : (climbH a S.reverse P != climbH b S.reverse Q) = false := HDD.out
        show climbH a S.reverse P = climbH b S.reverse Q
        simpa using h
      obtain ⟨R, hR⟩ : ∃ R, S.reverse = R := ⟨_, rfl⟩
      obtain ⟨L, hL⟩ : ∃ L, P.length = L := ⟨_, rfl⟩
      have hRP : R.length = P.length := by rw [← hR]; exact HLx1.out
      have hRQ : R.length = Q.length := by rw [← hR]; exact HLx2.out
      have hL2 : Q.length = L := by omega
      rw [hR] at HEQ HPA2 HPB2
      have lPA := pairsOf_length R P a hRP
      have lPB := pairsOf_length R Q b hRQ
      have HRP := Lib.hid hRP
      have HRQ := Lib.hid hRQ
      have HLP := Lib.hid hL
      have HLQ := Lib.hid hL2
      have HPAG : Hid (pairsOf a R P = pairsOf b R Q → a = b ∧ P = Q) := fun h => binds_same R a b P Q HRP.out HRQ.out HEQ.out h
      have HBIND : Hid (∀ k, k < L → (∀ j, k < j → (pairsOf a R P)[j]? = (pairsOf b R Q)[j]?) → ∀ x y, (pairsOf a R P)[k]? = some x → (pairsOf b R Q)[k]? = some y → nodeH x.1 x.2 = nodeH y.1 y.2) := fun k hk hj x y hx hy => by
        have hkR : k < R.length := by have := HRP.out; have := HLP.out; omega
        rw [node_pair a R P k x hkR HRP.out hx, node_pair b R Q k y hkR HRQ.out hy]
        exact binds_law a b R P Q HRP.out HRQ.out HEQ.out k hkR hj
      obtain ⟨PA, hPA⟩ : ∃ l, pairsOf a R P = l := ⟨_, rfl⟩
      obtain ⟨PB, hPB⟩ : ∃ l, pairsOf b R Q = l := ⟨_, rfl⟩
      rw [hPA] at HPA2 lPA HPAG HBIND
      rw [hPB] at HPB2 lPB HPAG HBIND
      rw [hL] at lPA
      rw [hL2] at lPB
      obtain ⟨Au, cu, eu⟩ := HPA2.out.isSlice
      obtain ⟨Av, cv, ev⟩ := HPB2.out.isSlice
      rw [lPA] at eu
      rw [lPB] at ev
      have hLB : (L : Int) ≤ 200 := by have := HPL.out; omega
      have LPA := Lib.hid lPA
      have LPB := Lib.hid lPB
      rw [eu] at HPA2 ⊢
      rw [ev] at HPB2 ⊢
      clear hRP hRQ hL2 lPA lPB hPA hPB hL hR eu ev HLx1 HLx2 HRP HRQ HLP HLQ HO0 HB16 HB18 HDD
      have HV17 := Lib.hid hV17
      have K7 := Lib.hid k7
      have K9 := Lib.hid k9
      clear hV17 k7 k9 k13
      go_wp2_with (fail)
      go_loopw [19] (fun iv wr => ∃ k : Nat, k ≤ L ∧ iv = .int .i64 ((k : Int) - 1) ∧ (∀ j, k ≤ j → PA[j]? = PB[j]?) ∧ Upd [] w17 wr) (fun iv _ => (intOf iv + 1).toNat)
      case atStart =>
        refine ⟨L, Nat.le_refl _, ?_, fun j hj => ?_, Upd.refl _ _⟩
        · go_num
        · rw [List.getElem?_eq_none (by rw [LPA.out]; exact hj), List.getElem?_eq_none (by rw [LPB.out]; exact hj)]
      case round =>
        obtain ⟨k, hk, rfl, hall, hU⟩ := hrel
        have HU := Lib.hid hU
        have HALL := Lib.hid hall
        obtain ⟨wo, rfl⟩ : ∃ wo : World, wo = wr := ⟨_, rfl⟩
        clear hU hall
        rcases k with _ | j
        · rw [show (((0 : Nat) : Int) - 1) = -1 by rfl]
          have hPP : PA = PB := List.ext_getElem? fun j => HALL.out j (by omega)
          obtain ⟨hab, hPQ⟩ := HPAG.out hPP
          have hcc : ca = cb := by rw [← HCA.out, ← HCB.out, hab]
          have hqq := fun W => eql_h32 a b HLA.out HLB.out W
          rw [show (a == b) = true by rw [hab]; simp, HCA.out, HCB.out] at hqq
          have HPQ := Lib.hid hPQ
          have k7 := HU.out.heap K7.out (by simp)
          have k9 := HU.out.heap K9.out (by simp)
          clear hPP hab hPQ hcc
          go_wp2_with (first
            | (with_reducible refine arm_load (by with_unfolding_all exact rfl) k7 Tryd.underlying27 (by with_unfolding_all exact rfl) hsa ?_)
            | (with_reducible refine arm_load (by with_unfolding_all exact rfl) k9 Tryd.underlying27 (by with_unfolding_all exact rfl) hsb ?_))
          with_reducible refine (HSM.out HPQ.out _ (HV17.out.trans HU.out)).mono ?_
          rintro e w18 ⟨rfl, hU18⟩
          go_wp2_with (fail)
          go_ret
          exact ⟨rfl, (HV17.out.trans HU.out).trans hU18⟩
        · rw [show (((j + 1 : Nat) : Int) - 1) = (j : Int) by omega]
          have hjL : (j : Int) < (L : Int) := by omega
          have hjA : j < PA.length := by rw [LPA.out]; omega
          have hjB : j < PB.length := by rw [LPB.out]; omega
          obtain ⟨g1, cap1, e1, _, _, _⟩ := HPA2.out.at (by omega)
          injection e1 with e1a e1b e1c
          obtain ⟨g2, cap2, e2, _, _, _⟩ := HPB2.out.at (by omega)
          injection e2 with e2a e2b e2c
          subst e1a e2a
          have hA := HPA2.out.upd0 HU.out
          have hB := HPB2.out.upd0 HU.out
          obtain ⟨x1l, x2l, x1r, x2r⟩ := hA.elem j hjA
          obtain ⟨y1l, y2l, y1r, y2r⟩ := hB.elem j hjB
          have xr := hA.pair j hjA
          have yr := hB.pair j hjB
          have hxj : PA[j]? = some PA[j] := List.getElem?_eq_getElem hjA
          have hyj : PB[j]? = some PB[j] := List.getElem?_eq_getElem hjB
          obtain ⟨x, hx⟩ : ∃ x, PA[j] = x := ⟨_, rfl⟩
          obtain ⟨y, hy⟩ : ∃ x, PB[j] = x := ⟨_, rfl⟩
          rw [hx] at x1l x2l x1r x2r xr hxj
          rw [hy] at y1l y2l y1r y2r yr hyj
          obtain ⟨x1, x2⟩ := x
          obtain ⟨y1, y2⟩ := y
          simp only at x1l x2l x1r x2r xr y1l y2l y1r y2r yr
          have hgp := guard_p64
          have hnp := fun W => neq_pair W x1 x2 y1 y2 x1l x2l y1l y2l
          obtain ⟨rr, hrr⟩ : ∃ r, (!((x1 == y1) && (x2 == y2))) = r := ⟨_, rfl⟩
          rw [hrr] at hnp
          have HRR := Lib.hid hrr
          have hsx := szlist64 (l := x1 ++ x2) (by simp [x1l, x2l])
          have hsy := szlist64 (l := y1 ++ y2) (by simp [y1l, y2l])
          have hsx1 := szlist x1l
          have hsx2 := szlist x2l
          have hsy1 := szlist y1l
          have hsy2 := szlist y2l
          have HXJ := Lib.hid hxj
          have HYJ := Lib.hid hyj
          have hne := HBIND.out j (by omega) (fun q hq => HALL.out q (by omega)) (x1, x2) (y1, y2) hxj hyj
          simp only at hne
          have HNE := Lib.hid hne
          clear hne
          have HN1 : Hid (∀ W, Upd [] wo W → Calls Tryd.prog 20 #[.agg (x1.map U8).toArray, .agg (x2.map U8).toArray] W fun e w' => e = .returned (.agg ((nodeH x1 x2).map U8).toArray) ∧ Upd [] W w') := fun W hW => HND.out W x1 x2 x1l x2l ((HV17.out.trans HU.out).trans hW)
          have HN2 : Hid (∀ W, Upd [] wo W → Calls Tryd.prog 20 #[.agg (y1.map U8).toArray, .agg (y2.map U8).toArray] W fun e w' => e = .returned (.agg ((nodeH x1 x2).map U8).toArray) ∧ Upd [] W w') := fun W hW => by rw [HNE.out]; exact HND.out W y1 y2 y1l y2l ((HV17.out.trans HU.out).trans hW)
          have hqn := fun W => eql_h32 (nodeH x1 x2) (nodeH x1 x2) (nodeH_length _ _) (nodeH_length _ _) W
          rw [show (nodeH x1 x2 == nodeH x1 x2) = true by simp] at hqn
          obtain ⟨cN, hcN⟩ : ∃ c, ((nodeH x1 x2).map U8).toArray = c := ⟨_, rfl⟩
          rw [hcN] at HN1 HN2 hqn
          obtain ⟨X, hX⟩ : ∃ c, (x1 ++ x2).map U8 = c := ⟨_, rfl⟩
          obtain ⟨X1, hX1⟩ : ∃ c, x1.map U8 = c := ⟨_, rfl⟩
          obtain ⟨X2, hX2⟩ : ∃ c, x2.map U8 = c := ⟨_, rfl⟩
          obtain ⟨Y, hY⟩ : ∃ c, (y1 ++ y2).map U8 = c := ⟨_, rfl⟩
          obtain ⟨Y1, hY1⟩ : ∃ c, y1.map U8 = c := ⟨_, rfl⟩
          obtain ⟨Y2, hY2⟩ : ∃ c, y2.map U8 = c := ⟨_, rfl⟩
          rw [hX] at xr hnp hsx
          rw [hY] at yr hnp hsy
          rw [hX1] at x1r HN1 hsx1
          rw [hX2] at x2r HN1 hsx2
          rw [hY1] at y1r HN2 hsy1
          rw [hY2] at y2r HN2 hsy2
          have HX : Hid (∀ W, Upd [] wo W → W.rangeAt g1 (j * 64) X) := fun W hW i v hi => hW.cell (xr i v hi) (by simp)
          have HY : Hid (∀ W, Upd [] wo W → W.rangeAt g2 (j * 64) Y) := fun W hW i v hi => hW.cell (yr i v hi) (by simp)
          have HX1 : Hid (∀ W, Upd [] wo W → W.rangeAt g1 (j * 64) X1) := fun W hW i v hi => hW.cell (x1r i v hi) (by simp)
          have HX2 : Hid (∀ W, Upd [] wo W → W.rangeAt g1 (j * 64 + 32) X2) := fun W hW i v hi => hW.cell (x2r i v hi) (by simp)
          have HY1 : Hid (∀ W, Upd [] wo W → W.rangeAt g2 (j * 64) Y1) := fun W hW i v hi => hW.cell (y1r i v hi) (by simp)
          have HY2 : Hid (∀ W, Upd [] wo W → W.rangeAt g2 (j * 64 + 32) Y2) := fun W hW i v hi => hW.cell (y2r i v hi) (by simp)
          clear e1b e1c e2b e2c hA hB x1l x2l x1r x2r y1l y2l y1r y2r xr yr hxj hyj hx hy hrr hcN hX hX1 hX2 hY hY1 hY2 hjA hjB
          go_wp2_with (fail)
          refine wp_region_quiet_all (Upd [] wo) (by kernel_rfl) (by kernel_rfl) (Upd.refl _ _).drew ?_
          repeat (first
            | go_big_quiet_skip
            | (refine wpQuiet_valK rfl (quiet_load_mid 48 _ rfl g1 (j * 64) rfl _ HX.out Tryd.underlying48 rfl hsx) (fun K hK => ?_); go_simp; refine hK _ ?_; clear hK K)
            | (refine wpQuiet_valK rfl (quiet_load_mid 48 _ rfl g2 (j * 64) rfl _ HY.out Tryd.underlying48 rfl hsy) (fun K hK => ?_); go_simp; refine hK _ ?_; clear hK K)
            | go_big_quiet_step ((intro hw2; rfl)))
          refine wpQuiet_nil ?_
          intro w20 hUw20
          have hV20 := HU.out.trans hUw20
          cases rr
          · have HV20 := Lib.hid hV20
            have hxy : PA[j]? = PB[j]? := by
              have h := HRR.out
              simp only [Bool.not_eq_false', Bool.and_eq_true, beq_iff_eq] at h
              rw [HXJ.out, HYJ.out, h.1, h.2]
            have HNX : Hid (∀ q, j ≤ q → PA[q]? = PB[q]?) := fun q hq => by
              rcases Nat.lt_or_eq_of_le hq with h | h
              · exact HALL.out q (by omega)
              · rw [← h]; exact hxy
            clear hV20 hxy hUw20 hnp hgp hqn
            go_wp2_with (fail)
            go_roundw
            case rel => exact ⟨j, by omega, by go_num, HNX.out, HV20.out⟩
            case measure => first | (simp [intOf]; done) | (simp [intOf]; omega)
          · have HX1b : Hid (∀ W, Upd [] w20 W → W.rangeAt g1 (j * 64) X1) := fun W hW => HX1.out W (hUw20.trans hW)
            have HX2b : Hid (∀ W, Upd [] w20 W → W.rangeAt g1 (j * 64 + 32) X2) := fun W hW => HX2.out W (hUw20.trans hW)
            have HY1b : Hid (∀ W, Upd [] w20 W → W.rangeAt g2 (j * 64) Y1) := fun W hW => HY1.out W (hUw20.trans hW)
            have HY2b : Hid (∀ W, Upd [] w20 W → W.rangeAt g2 (j * 64 + 32) Y2) := fun W hW => HY2.out W (hUw20.trans hW)
            have HN1b : Hid (∀ W, Upd [] w20 W → Calls Tryd.prog 20 #[.agg X1.toArray, .agg X2.toArray] W fun e w' => e = .returned (.agg cN) ∧ Upd [] W w') := fun W hW => HN1.out W (hUw20.trans hW)
            have HN2b : Hid (∀ W, Upd [] w20 W → Calls Tryd.prog 20 #[.agg Y1.toArray, .agg Y2.toArray] W fun e w' => e = .returned (.agg cN) ∧ Upd [] W w') := fun W hW => HN2.out W (hUw20.trans hW)
            clear hnp hgp hUw20
            go_wp2_with (fail)
            refine wp_region_quiet_all (Upd [] w20) (by kernel_rfl) (by kernel_rfl) (Upd.refl _ _).drew ?_
            repeat (first
              | go_big_quiet_skip
              | (refine wpQuiet_valK rfl (quiet_load_mid 27 _ rfl g1 (j * 64) rfl _ HX1b.out Tryd.underlying27 rfl hsx1) (fun K hK => ?_); go_simp; refine hK _ ?_; clear hK K)
              | (refine wpQuiet_valK rfl (quiet_load_mid 27 _ rfl g1 (j * 64 + 32) rfl _ HX2b.out Tryd.underlying27 rfl hsx2) (fun K hK => ?_); go_simp; refine hK _ ?_; clear hK K)
              | (refine wpQuiet_valK rfl (quiet_load_mid 27 _ rfl g2 (j * 64) rfl _ HY1b.out Tryd.underlying27 rfl hsy1) (fun K hK => ?_); go_simp; refine hK _ ?_; clear hK K)
              | (refine wpQuiet_valK rfl (quiet_load_mid 27 _ rfl g2 (j * 64 + 32) rfl _ HY2b.out Tryd.underlying27 rfl hsy2) (fun K hK => ?_); go_simp; refine hK _ ?_; clear hK K)
              | go_big_quiet_step ((intro hw2; first
                  | rfl
                  | ((with_reducible refine (HN1b.out _ hw2).mono ?_); exact fun e w' h => ⟨h.1, hw2.trans h.2⟩)
                  | ((with_reducible refine (HN2b.out _ hw2).mono ?_); exact fun e w' h => ⟨h.1, hw2.trans h.2⟩)
                  )))
            refine wpQuiet_nil ?_
            intro w21 hUw21
            go_wp2_with (fail)
            go_ret
            exact ⟨rfl, (HV17.out.trans hV20).trans hUw21⟩
theorem law_binds16 (w : World) (pv qv : Value) (a : H8) (P : List H8) (b : H8) (Q : List H8) (root : H8) (i n : Int) (hla : a.length = 32) (hlb : b.length = 32) (hlr : root.length = 32) (hp : RdH w pv P) (hq : RdH w qv Q) (hg : Gl256 w) (hf : GlFirst256 w) :
    Calls Tryd.prog 6 #[.agg (a.map U8).toArray, pv, .agg (b.map U8).toArray, qv, .int .i64 i, .int .i64 n, .agg (root.map U8).toArray] w fun e w' => e = .returned (.bool true) ∧ Upd [] w w' := by
  obtain ⟨A, c, e, hc1, hc2⟩ := hp.isSlice
  obtain ⟨D, c2, e2, hd1, hd2⟩ := hq.isSlice
  by_cases hbad : n < 1 ∨ n > 65536 ∨ i < 0 ∨ n ≤ i
  · rw [e, e2]
    exact binds_bad w _ _ _ A D _ c _ c2 i n (szrow hla) (szrow hlr) hbad
  obtain ⟨i', rfl⟩ : ∃ k : Nat, i = k := ⟨i.toNat, by omega⟩
  obtain ⟨n', rfl⟩ : ∃ k : Nat, n = k := ⟨n.toNat, by omega⟩
  by_cases hlong : 200 < P.length ∨ 200 < Q.length
  · have HCK : Hid (∀ W, Upd [] w W → Calls Tryd.prog 21 #[.agg (a.map U8).toArray, .int .i64 i', .int .i64 n', pv, .agg (root.map U8).toArray] W fun e w' => e = .returned (.bool (takenI a i' n' P root)) ∧ Upd [] W w') := fun W hW => checkI_any W a root i' n' pv P hla hlr (by omega) (by omega) (hp.upd0 hW) (hg.upd hW (by simp)) (hf.upd hW (by simp))
    rw [e] at HCK
    rw [e, e2]
    exact binds_long w _ _ _ A D _ c _ c2 i' n' _ (szrow hla) (szrow hlr) (by omega) (by omega) hlong HCK
  exact binds_good w pv qv a b root P Q i' n' hla hlb hlr (by omega) (by omega) hp hq (by omega) (by omega) hg hf
end Go.Proofs.YtdfoffheolbokaaDoor
