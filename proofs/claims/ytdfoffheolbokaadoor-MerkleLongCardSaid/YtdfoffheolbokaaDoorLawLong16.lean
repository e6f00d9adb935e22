/-
  The law MerkleLong: above MaxLeaves leaves everything is refused.
-/
import Derived.Test.YtdfoffheolbokaaDoorCons
import Derived.Test.YtdfoffheolbokaaDoorCheckC0
namespace Go.Proofs.YtdfoffheolbokaaDoor
open Go Go.RowKit Go.Proofs
theorem takenC_self (n : Nat) (h : H8) (hn : 0 < n) : takenC n n h h [] = true := by
  unfold takenC
  rw [if_neg (by omega), lastAt_end n n (Nat.le_refl _), wayDown_end n n (Nat.le_refl _)]
  simp [startC, crossH]
set_option maxRecDepth 100000 in
set_option maxHeartbeats 6400000 in
theorem law_long16 (w : World) (more : Int) (h : H8) (hh : h.length = 32) (hg : Gl256 w) (hf : GlFirst256 w) :
    Calls Tryd.prog 7 #[.int .i64 more, .agg (h.map U8).toArray] w fun x w' => x = .returned (.bool true) ∧ Upd [] w w' := by
  by_cases h1 : more < 1
  · clear hg hf hh
    go_enter Tryd.func7, Tryd.ntmps7
    go_wp2_with (fail)
    go_ret
    exact ⟨rfl, (Upd.refl _ w).alloc _⟩
  by_cases h2 : more > 40
  · clear hg hf hh
    go_enter Tryd.func7, Tryd.ntmps7
    go_wp2_with (fail)
    go_ret
    exact ⟨rfl, (Upd.refl _ w).alloc _⟩
  obtain ⟨m, rfl⟩ : ∃ m : Nat, more = m := ⟨more.toNat, by omega⟩
  have hm1 : 1 ≤ m := by omega
  have hm2 : m ≤ 40 := by omega
  obtain ⟨n, hn⟩ : ∃ n, 65536 + m = n := ⟨_, rfl⟩
  have hn' : 65536 + (m : Int) = (n : Int) := by omega
  have hn1 : 65536 < n := by omega
  have hn2 : n ≤ 65576 := by omega
  have HRL : Hid (∀ W g, Calls Tryd.prog 18 #[.slice (some ⟨g, 0, none⟩) n n] W fun e w' => e = .returned (.tuple #[.agg (zrow8 32), .bool false]) ∧ Upd [] W w') := fun W g => mroot_long W _ n n hn1
  have HIB : Hid (∀ W g, Calls Tryd.prog 25 #[.slice (some ⟨g, 0, none⟩) n n, .int .i64 0] W fun e w' => e = .returned (.tuple #[.slice none 0 0, .bool false]) ∧ Upd [] W w') := fun W g => inclusion_bad W _ n n 0 (.inl hn1)
  have HCB : Hid (∀ W g, Calls Tryd.prog 26 #[.slice (some ⟨g, 0, none⟩) n n, .int .i64 n] W fun e w' => e = .returned (.tuple #[.slice none 0 0, .bool false]) ∧ Upd [] W w') := fun W g => consistency_bad W _ n n n (.inl hn1)
  have HR1 : Hid (∀ W v, Upd [] w W → RdH W v [h] → Calls Tryd.prog 18 #[v] W fun e w' => e = .returned (.tuple #[.agg (h.map U8).toArray, .bool true]) ∧ Upd [] W w') := fun W v hW hv => by
    have := mroot_ W v [h] hv (by simp) (hg.upd hW (by simp)) (hf.upd hW (by simp))
    rwa [rootOf_one] at this
  have HK1 : Hid (∀ W, Calls Tryd.prog 27 #[.int .i64 n, .int .i64 n, .agg (h.map U8).toArray, .agg (h.map U8).toArray, .slice none 0 0] W fun e w' => e = .returned (.bool false) ∧ Upd [] W w') := fun W => checkC_bad W _ _ n n _ (.inr (.inr (by omega)))
  have HK2 : Hid (∀ W, Upd [] w W → Calls Tryd.prog 27 #[.int .i64 65536, .int .i64 65536, .agg (h.map U8).toArray, .agg (h.map U8).toArray, .slice none 0 0] W fun e w' => e = .returned (.bool true) ∧ Upd [] W w') := fun W hW => by
    have := checkC_ W h h 65536 65536 _ [] hh hh (by omega) (by omega) (by omega) (RdH.nil W) (by simp) (hg.upd hW (by simp)) (hf.upd hW (by simp))
    have ht := takenC_self 65536 h (by omega)
    rwa [ht] at this
  have hq1 := fun W => eql_h32 h h hh hh W
  simp only [beq_self_eq_true] at hq1
  have hq2 : ∀ W, (binOp .neq 27 (.agg (zrow8 32)) (.agg (zrow8 32))).run Tryd.prog W = .ok (.bool false) W := fun W => by rw [zrow_h, neq_h32 _ _ (by simp) (by simp)]; simp
  have hgd := guard_h32
  have hbz := built_hash
  have hsh := szrow hh
  have hoh := sameZ hh
  have hah := oneAll h
  have hsz := size_z
  have hone := zrow_one
  have hset : ∀ W g, OwnH W g (.slice (some ⟨g, 0, none⟩) n n) (List.replicate n (List.replicate 32 0)) → W.there g 0 32 ∧ OwnH (W.setCells g 0 (h.map U8)) g (.slice (some ⟨g, 0, none⟩) n n) ((List.replicate n (List.replicate 32 0)).set 0 h) := fun W g hO => by
    have := hO.set 0 (by simp; omega) h hh
    rwa [Nat.zero_mul] at this
  have HCUT : Hid (∀ W g, RdH W (.slice (some ⟨g, 0, none⟩) n n) ((List.replicate n (List.replicate 32 0)).set 0 h) → ∃ B, (∀ W, (Instr.sliceAt 25 (.slice (some ⟨g, 0, none⟩) n n) none (some (.int .i64 1)) none).run Tryd.prog W = .ok (.slice B 1 n) W) ∧ RdH W (.slice B 1 n) [h]) := fun W g hr => by
    obtain ⟨B, hB, hvB⟩ := hr.cut2 0 1 none (some (.int .i64 1)) (.inl ⟨rfl, rfl⟩) (.inr rfl) (by omega) (by omega)
    simp only [Nat.sub_zero, List.drop_zero] at hB hvB
    refine ⟨B, hB, ?_⟩
    have e : ((List.replicate n (List.replicate 32 (0 : BitVec 8))).set 0 h).take 1 = [h] := by
      obtain ⟨k, rfl⟩ : ∃ k, n = k + 1 := ⟨n - 1, by omega⟩
      simp [List.replicate_succ]
    rwa [e] at hvB
  obtain ⟨lh, hlh⟩ : ∃ l, h.map U8 = l := ⟨_, rfl⟩
  obtain ⟨cz, hcz⟩ : ∃ c, zrow8 32 = c := ⟨_, rfl⟩
  have HZZ : Hid (∀ W, (zeroValue 27).run Tryd.prog W = .ok (.agg cz) W) := fun W => by rw [← hcz]; exact zero_h32 W
  rw [hlh] at HR1 HK1 HK2 hq1 hsh hoh hah hset ⊢
  rw [hcz] at HRL hq2 hbz hoh hsz hone
  have hls : lh.toArray.size = 32 := by rw [← hlh]; simp [hh]
  have HSET := Lib.hid hset
  clear hg hf hh hlh hcz hn hset
  go_enter Tryd.func7, Tryd.ntmps7
  go_wp2_with (with_reducible refine arm_box (by with_unfolding_all exact rfl) ?_)
  intro b3 w3 hb3 k3 hU3 hz3
  change w3.heap[b3]? = some (.cells lh.toArray 27 (0, 0)) at k3
  go_wp2_with (with_reducible refine makeH (by with_unfolding_all exact rfl) (by with_unfolding_all exact rfl) (by omega) ?_)
  intro g w4 hg4 hO4 hU4
  have k34 := hU4.heap k3 (by simp)
  obtain ⟨hth, hO5⟩ := HSET.out _ _ hO4
  have hth' : w4.there g 0 lh.toArray.size := by rw [hls]; exact hth
  have hgw : w.heap.size ≤ g := by have := hU3.size; omega
  have hg3 : b3 ≠ g := by have := lt_of_heap k3; omega
  have hV5 : Upd [] w (w4.setCells g 0 lh) := (hU3.trans hU4).setCells g 0 lh (fun hgl => by omega)
  have k35 : (w4.setCells g 0 lh).heap[b3]? = some (.cells lh.toArray 27 (0, 0)) := by rw [setCells_heap_other g lh 0 w4 b3 hg3]; exact k34
  obtain ⟨w5, hw5⟩ : ∃ W, w4.setCells g 0 lh = W := ⟨_, rfl⟩
  rw [hw5] at hV5 k35 hO5
  have HW5 := Lib.hid hw5
  clear hb3 hz3 k3 hU3 hg4 hO4 hU4 hth hw5 hgw hg3
  go_wp2_with (first
    | (with_reducible refine arm_load (by with_unfolding_all exact rfl) k34 Tryd.underlying27 (by with_unfolding_all exact rfl) hsh ?_)
    | (with_reducible refine arm_store_mid (g := g) (k := 0) (by with_unfolding_all exact rfl) (by with_unfolding_all exact rfl) hth' hsh hah ?_))
  rw [HW5.out]
  clear k34 hth'
  with_reducible refine (HRL.out _ _).mono ?_
  rintro e w6 ⟨rfl, hU6⟩
  have k36 := hU6.heap k35 (by simp)
  have hO6 := hO5.upd0 hU6
  have hV6 := hV5.trans hU6
  clear k35 hO5 hV5 hU6
  go_wp2_with (with_reducible refine arm_alloc (HZZ.out _) ?_)
  intro b6 w7 hb6 k7 hU7 hz7
  change w7.heap[b6]? = some (.cells cz 27 (0, 0)) at k7
  have hl6 : w.heap.size ≤ b6 := by have := hV6.size; omega
  go_wp2_with (with_reducible refine arm_store (by with_unfolding_all exact rfl) (by with_unfolding_all exact rfl) k7 hsz rfl hone ?_)
  intro w8 k8 hX8 hz8
  have hT8 := hU7.fresh hb6 hX8
  have k38 := hT8.heap k36 (by simp)
  have hO8 := hO6.upd0 hT8
  have hV8 := hV6.trans hT8
  clear hb6 k7 hU7 hz7 hl6 hX8 hz8 hT8 k36 hO6 hV6
  go_wp2_with (fail)
  with_reducible refine (HIB.out _ _).mono ?_
  rintro e w9 ⟨rfl, hU9⟩
  have k39 := hU9.heap k38 (by simp)
  have k69 := hU9.heap k8 (by simp)
  have hO9 := hO8.upd0 hU9
  have hV9 := hV8.trans hU9
  clear k38 k8 hO8 hV8 hU9
  go_wp2_with (fail)
  with_reducible refine (HCB.out _ _).mono ?_
  rintro e w10 ⟨rfl, hU10⟩
  have k3a := hU10.heap k39 (by simp)
  have k6a := hU10.heap k69 (by simp)
  have hOa := hO9.upd0 hU10
  have hVa := hV9.trans hU10
  obtain ⟨SB, hsli, hrd⟩ := HCUT.out _ _ hOa.rd
  have HSLI := Lib.hid hsli
  clear k39 k69 hO9 hV9 hU10 hOa hsli
  go_wp2_with (first
    | (with_reducible refine arm_load_g (by with_unfolding_all exact rfl) (by with_unfolding_all exact rfl) k6a Tryd.underlying27 (by with_unfolding_all exact rfl) hsz ?_)
    | (with_reducible refine arm_build0_g (by with_unfolding_all exact rfl) hbz ?_)
    | (with_reducible refine arm_slice (by with_unfolding_all exact rfl) (by with_unfolding_all exact rfl) (by with_unfolding_all exact rfl) (by with_unfolding_all exact rfl) HSLI.out ?_))
  with_reducible refine (HR1.out _ _ hVa hrd).mono ?_
  rintro e w11 ⟨rfl, hU11⟩
  have k3b := hU11.heap k3a (by simp)
  have hVb := hVa.trans hU11
  clear k3a k6a hVa hU11 hrd
  go_wp2_with (with_reducible refine arm_alloc (HZZ.out _) ?_)
  intro b12 w12 hb12 k12 hU12 hz12
  change w12.heap[b12]? = some (.cells cz 27 (0, 0)) at k12
  go_wp2_with (with_reducible refine arm_store (by with_unfolding_all exact rfl) (by with_unfolding_all exact rfl) k12 hsh hoh hah ?_)
  intro w13 k13 hX13 hz13
  have hT13 := hU12.fresh hb12 hX13
  have k3c := hT13.heap k3b (by simp)
  have hVc := hVb.trans hT13
  clear hb12 k12 hU12 hz12 hX13 hz13 hT13 k3b hVb
  go_wp2_with (first
    | (with_reducible refine arm_load_g (by with_unfolding_all exact rfl) (by with_unfolding_all exact rfl) k13 Tryd.underlying27 (by with_unfolding_all exact rfl) hsh ?_)
    | (with_reducible refine arm_load_g (by with_unfolding_all exact rfl) (by with_unfolding_all exact rfl) k3c Tryd.underlying27 (by with_unfolding_all exact rfl) hsh ?_))
  with_reducible refine (HK1.out _).mono ?_
  rintro e w14 ⟨rfl, hU14⟩
  have k3d := hU14.heap k3c (by simp)
  have hVd := hVc.trans hU14
  clear k13 k3c hVc hU14
  go_wp2_with (with_reducible refine arm_load_g (by with_unfolding_all exact rfl) (by with_unfolding_all exact rfl) k3d Tryd.underlying27 (by with_unfolding_all exact rfl) hsh ?_)
  with_reducible refine (HK2.out _ hVd).mono ?_
  rintro e w15 ⟨rfl, hU15⟩
  go_wp2_with (fail)
  go_ret
  exact ⟨rfl, hVd.trans hU15⟩
end Go.Proofs.YtdfoffheolbokaaDoor
