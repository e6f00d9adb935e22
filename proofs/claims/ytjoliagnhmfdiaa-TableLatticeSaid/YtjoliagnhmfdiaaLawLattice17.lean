/-
  The law TableLattice: entries of one certificate are a semilattice under Join, Covers its order.
-/
import Derived.Test.YtjoliagnhmfdiaaKnown17
import Derived.Test.YtjoliagnhmfdiaaLJoined
namespace Go.Proofs.Ytjoliagnhmfdiaa
open Go Go.RowKit Go.Proofs
theorem covers_one {a b : Ent} (hc : a.crt = b.crt) : covers a b = entEq (joinE a b) a := by
  unfold covers
  rw [(crtEq_iff _ _).2 hc, Bool.true_and]
theorem covers_iff {a b : Ent} (hc : a.crt = b.crt) : covers a b = true ↔ joinE a b = a := by rw [covers_one hc, entEq_iff]
set_option maxRecDepth 100000 in
set_option maxHeartbeats 25600000 in
theorem law_lattice17 (w : World) (crt : Crt) (x y z : Ent) (hcrt : crt.ok) (hx : x.ok) (hy : y.ok) (hz : z.ok) : Calls Try.prog 4 #[.agg (crtC crt).toArray, .agg (entC x).toArray, .agg (entC y).toArray, .agg (entC z).toArray] w fun e w' => e = .returned (.bool true) ∧ Upd [] w w' := by
  have oA : Ent.ok (fitE crt x) := fitE_ok hcrt hx
  have fA := fitE_fit crt x
  have oB : Ent.ok (fitE crt y) := fitE_ok hcrt hy
  have fB := fitE_fit crt y
  have oC : Ent.ok (fitE crt z) := fitE_ok hcrt hz
  have fC := fitE_fit crt z
  have oAB := joinE_ok oA oB
  have oBC := joinE_ok oB oC
  have oL := joinE_ok oAB oC
  have HFA : Hid (∀ W, Calls Try.prog 9 #[.agg (crtC crt).toArray, .agg (entC x).toArray] W fun e w' => e = .returned (.agg (entC (fitE crt x)).toArray) ∧ Upd [] W w') := fun W => fitted_ W crt x hcrt hx
  have HFB : Hid (∀ W, Calls Try.prog 9 #[.agg (crtC crt).toArray, .agg (entC y).toArray] W fun e w' => e = .returned (.agg (entC (fitE crt y)).toArray) ∧ Upd [] W w') := fun W => fitted_ W crt y hcrt hy
  have HFC : Hid (∀ W, Calls Try.prog 9 #[.agg (crtC crt).toArray, .agg (entC z).toArray] W fun e w' => e = .returned (.agg (entC (fitE crt z)).toArray) ∧ Upd [] W w') := fun W => fitted_ W crt z hcrt hz
  have HJ1 : Hid (∀ W, Calls Try.prog 10 #[.agg (entC (fitE crt x)).toArray, .agg (entC (fitE crt y)).toArray] W fun e w' => e = .returned (.tuple #[.agg (entC (joinE (fitE crt x) (fitE crt y))).toArray, .bool true]) ∧ Upd [] W w') := fun W => ljoined_ W _ _ oA oB rfl
  have HJ2 : Hid (∀ W, Calls Try.prog 10 #[.agg (entC (fitE crt y)).toArray, .agg (entC (fitE crt x)).toArray] W fun e w' => e = .returned (.tuple #[.agg (entC (joinE (fitE crt x) (fitE crt y))).toArray, .bool true]) ∧ Upd [] W w') := fun W => by rw [joinE_comm _ _ oA oB rfl]; exact ljoined_ W _ _ oB oA rfl
  have HJ3 : Hid (∀ W, Calls Try.prog 10 #[.agg (entC (fitE crt y)).toArray, .agg (entC (fitE crt z)).toArray] W fun e w' => e = .returned (.tuple #[.agg (entC (joinE (fitE crt y) (fitE crt z))).toArray, .bool true]) ∧ Upd [] W w') := fun W => ljoined_ W _ _ oB oC rfl
  have HJ4 : Hid (∀ W, Calls Try.prog 10 #[.agg (entC (joinE (fitE crt x) (fitE crt y))).toArray, .agg (entC (fitE crt z)).toArray] W fun e w' => e = .returned (.tuple #[.agg (entC (joinE (joinE (fitE crt x) (fitE crt y)) (fitE crt z))).toArray, .bool true]) ∧ Upd [] W w') := fun W => ljoined_ W _ _ oAB oC rfl
  have HJ5 : Hid (∀ W, Calls Try.prog 10 #[.agg (entC (fitE crt x)).toArray, .agg (entC (joinE (fitE crt y) (fitE crt z))).toArray] W fun e w' => e = .returned (.tuple #[.agg (entC (joinE (joinE (fitE crt x) (fitE crt y)) (fitE crt z))).toArray, .bool true]) ∧ Upd [] W w') := fun W => by rw [joinE_assoc _ _ _ oA oB oC]; exact ljoined_ W _ _ oA oBC rfl
  have HJ6 : Hid (∀ W, Calls Try.prog 10 #[.agg (entC (fitE crt x)).toArray, .agg (entC (fitE crt x)).toArray] W fun e w' => e = .returned (.tuple #[.agg (entC (fitE crt x)).toArray, .bool true]) ∧ Upd [] W w') := fun W => by have h := ljoined_ W _ _ oA oA rfl; rwa [joinE_self _ oA fA] at h
  have HC1 : Hid (∀ W, Calls Try.prog 7 #[.agg (entC (joinE (fitE crt x) (fitE crt y))).toArray, .agg (entC (fitE crt x)).toArray] W fun e w' => e = .returned (.bool (covers (joinE (fitE crt x) (fitE crt y)) (fitE crt x))) ∧ Upd [] W w') := fun W => tcovers_ W _ _ oAB oA
  have HC2 : Hid (∀ W, Calls Try.prog 7 #[.agg (entC (joinE (fitE crt x) (fitE crt y))).toArray, .agg (entC (fitE crt y)).toArray] W fun e w' => e = .returned (.bool (covers (joinE (fitE crt x) (fitE crt y)) (fitE crt y))) ∧ Upd [] W w') := fun W => tcovers_ W _ _ oAB oB
  have HC3 : Hid (∀ W, Calls Try.prog 7 #[.agg (entC (fitE crt x)).toArray, .agg (entC (fitE crt x)).toArray] W fun e w' => e = .returned (.bool (covers (fitE crt x) (fitE crt x))) ∧ Upd [] W w') := fun W => tcovers_ W _ _ oA oA
  have HC4 : Hid (∀ W, Calls Try.prog 7 #[.agg (entC (fitE crt z)).toArray, .agg (entC (fitE crt x)).toArray] W fun e w' => e = .returned (.bool (covers (fitE crt z) (fitE crt x))) ∧ Upd [] W w') := fun W => tcovers_ W _ _ oC oA
  have HC5 : Hid (∀ W, Calls Try.prog 7 #[.agg (entC (fitE crt z)).toArray, .agg (entC (fitE crt y)).toArray] W fun e w' => e = .returned (.bool (covers (fitE crt z) (fitE crt y))) ∧ Upd [] W w') := fun W => tcovers_ W _ _ oC oB
  have HC6 : Hid (∀ W, Calls Try.prog 7 #[.agg (entC (fitE crt z)).toArray, .agg (entC (joinE (fitE crt x) (fitE crt y))).toArray] W fun e w' => e = .returned (.bool (covers (fitE crt z) (joinE (fitE crt x) (fitE crt y)))) ∧ Upd [] W w') := fun W => tcovers_ W _ _ oC oAB
  have HC7 : Hid (∀ W, Calls Try.prog 7 #[.agg (entC (fitE crt x)).toArray, .agg (entC (fitE crt y)).toArray] W fun e w' => e = .returned (.bool (covers (fitE crt x) (fitE crt y))) ∧ Upd [] W w') := fun W => tcovers_ W _ _ oA oB
  have HC8 : Hid (∀ W, Calls Try.prog 7 #[.agg (entC (fitE crt y)).toArray, .agg (entC (fitE crt x)).toArray] W fun e w' => e = .returned (.bool (covers (fitE crt y) (fitE crt x))) ∧ Upd [] W w') := fun W => tcovers_ W _ _ oB oA
  have HC9 : Hid (∀ W, Calls Try.prog 7 #[.agg (entC (fitE crt y)).toArray, .agg (entC (fitE crt z)).toArray] W fun e w' => e = .returned (.bool (covers (fitE crt y) (fitE crt z))) ∧ Upd [] W w') := fun W => tcovers_ W _ _ oB oC
  have HC0 : Hid (∀ W, Calls Try.prog 7 #[.agg (entC (fitE crt x)).toArray, .agg (entC (fitE crt z)).toArray] W fun e w' => e = .returned (.bool (covers (fitE crt x) (fitE crt z))) ∧ Upd [] W w') := fun W => tcovers_ W _ _ oA oC
  rw [show covers (joinE (fitE crt x) (fitE crt y)) (fitE crt x) = true from (covers_iff (a := (joinE (fitE crt x) (fitE crt y))) (b := (fitE crt x)) rfl).2 (cov_left _ _ oA oB fA)] at HC1
  rw [show covers (joinE (fitE crt x) (fitE crt y)) (fitE crt y) = true from (covers_iff (a := (joinE (fitE crt x) (fitE crt y))) (b := (fitE crt y)) rfl).2 (cov_right _ _ oA oB fB)] at HC2
  rw [show covers (fitE crt x) (fitE crt x) = true from (covers_iff (a := (fitE crt x)) (b := (fitE crt x)) rfl).2 (cov_refl _ oA fA)] at HC3
  have HI1 : Hid (covers (fitE crt z) (fitE crt x) = true → covers (fitE crt z) (fitE crt y) = true → covers (fitE crt z) (joinE (fitE crt x) (fitE crt y)) = true) := fun h1 h2 => (covers_iff (a := (fitE crt z)) (b := (joinE (fitE crt x) (fitE crt y))) rfl).2 (cov_lub _ _ _ oA oB oC ((covers_iff (a := (fitE crt z)) (b := (fitE crt x)) rfl).1 h1) ((covers_iff (a := (fitE crt z)) (b := (fitE crt y)) rfl).1 h2))
  have HI2 : Hid (covers (fitE crt x) (fitE crt y) = true → covers (fitE crt y) (fitE crt x) = true → entEq (fitE crt x) (fitE crt y) = true) := fun h1 h2 => (entEq_iff _ _).2 (cov_anti _ _ oA oB rfl ((covers_iff (a := (fitE crt x)) (b := (fitE crt y)) rfl).1 h1) ((covers_iff (a := (fitE crt y)) (b := (fitE crt x)) rfl).1 h2))
  have HI3 : Hid (covers (fitE crt x) (fitE crt y) = true → covers (fitE crt y) (fitE crt z) = true → covers (fitE crt x) (fitE crt z) = true) := fun h1 h2 => (covers_iff (a := (fitE crt x)) (b := (fitE crt z)) rfl).2 (cov_trans _ _ _ oA oB oC ((covers_iff (a := (fitE crt x)) (b := (fitE crt y)) rfl).1 h1) ((covers_iff (a := (fitE crt y)) (b := (fitE crt z)) rfl).1 h2))
  obtain ⟨c4, hh⟩ : ∃ qq, covers (fitE crt z) (fitE crt x) = qq := ⟨_, rfl⟩
  rw [hh] at HC4 HI1
  clear hh
  obtain ⟨c5, hh⟩ : ∃ qq, covers (fitE crt z) (fitE crt y) = qq := ⟨_, rfl⟩
  rw [hh] at HC5 HI1
  clear hh
  obtain ⟨c6, hh⟩ : ∃ qq, covers (fitE crt z) (joinE (fitE crt x) (fitE crt y)) = qq := ⟨_, rfl⟩
  rw [hh] at HC6 HI1
  clear hh
  obtain ⟨c7, hh⟩ : ∃ qq, covers (fitE crt x) (fitE crt y) = qq := ⟨_, rfl⟩
  rw [hh] at HC7 HI2 HI3
  clear hh
  obtain ⟨c8, hh⟩ : ∃ qq, covers (fitE crt y) (fitE crt x) = qq := ⟨_, rfl⟩
  rw [hh] at HC8 HI2
  clear hh
  obtain ⟨c9, hh⟩ : ∃ qq, covers (fitE crt y) (fitE crt z) = qq := ⟨_, rfl⟩
  rw [hh] at HC9 HI3
  clear hh
  obtain ⟨c0, hh⟩ : ∃ qq, covers (fitE crt x) (fitE crt z) = qq := ⟨_, rfl⟩
  rw [hh] at HC0 HI3
  clear hh
  have hqAB := fun W => neq_ent W (joinE (fitE crt x) (fitE crt y)) (joinE (fitE crt x) (fitE crt y)) oAB oAB
  rw [show entEq (joinE (fitE crt x) (fitE crt y)) (joinE (fitE crt x) (fitE crt y)) = true from (entEq_iff _ _).2 rfl, Bool.not_true] at hqAB
  have hqL := fun W => neq_ent W (joinE (joinE (fitE crt x) (fitE crt y)) (fitE crt z)) (joinE (joinE (fitE crt x) (fitE crt y)) (fitE crt z)) oL oL
  rw [show entEq (joinE (joinE (fitE crt x) (fitE crt y)) (fitE crt z)) (joinE (joinE (fitE crt x) (fitE crt y)) (fitE crt z)) = true from (entEq_iff _ _).2 rfl, Bool.not_true] at hqL
  have hqA := fun W => neq_ent W (fitE crt x) (fitE crt x) oA oA
  rw [show entEq (fitE crt x) (fitE crt x) = true from (entEq_iff _ _).2 rfl, Bool.not_true] at hqA
  have hqN := fun W => neq_ent W (fitE crt x) (fitE crt y) oA oB
  obtain ⟨eN, hh⟩ : ∃ qq, entEq (fitE crt x) (fitE crt y) = qq := ⟨_, rfl⟩
  rw [hh] at hqN HI2
  clear hh
  have hgd := guard_ent
  have s_t : (Try.prog.info? 27).map (·.size) = some (crtC crt).toArray.size := by rw [size_crt]; simp [crtC_length hcrt]
  have s_X := szent hx
  have s_Y := szent hy
  have s_Z := szent hz
  have s_A := szent oA
  have o_A := samez zeroEnt_ok oA
  have a_A := all_of_one (entC_one (fitE crt x))
  have s_B := szent oB
  have o_B := samez zeroEnt_ok oB
  have a_B := all_of_one (entC_one (fitE crt y))
  have s_C := szent oC
  have o_C := samez zeroEnt_ok oC
  have a_C := all_of_one (entC_one (fitE crt z))
  have s_AB := szent oAB
  have o_AB := samez zeroEnt_ok oAB
  have a_AB := all_of_one (entC_one (joinE (fitE crt x) (fitE crt y)))
  have s_BC := szent oBC
  have o_BC := samez zeroEnt_ok oBC
  have a_BC := all_of_one (entC_one (joinE (fitE crt y) (fitE crt z)))
  have s_L := szent oL
  have o_L := samez zeroEnt_ok oL
  have a_L := all_of_one (entC_one (joinE (joinE (fitE crt x) (fitE crt y)) (fitE crt z)))
  have HZE : Hid (∀ W, (zeroValue 29).run Try.prog W = .ok (.agg (entC zeroEnt).toArray) W) := zero_ent
  have HKN : Hid (∀ W, Calls Try.prog 11 #[] W fun e w' => e = .returned (.bool true) ∧ Upd [] W w') := known_
  obtain ⟨lL, hlL⟩ : ∃ qq, (entC (joinE (joinE (fitE crt x) (fitE crt y)) (fitE crt z))).toArray = qq := ⟨_, rfl⟩
  rw [hlL] at HJ4 HJ5 hqL s_L o_L a_L
  obtain ⟨lAB, hlAB⟩ : ∃ qq, (entC (joinE (fitE crt x) (fitE crt y))).toArray = qq := ⟨_, rfl⟩
  rw [hlAB] at HJ1 HJ2 HJ4 HC1 HC2 HC6 hqAB s_AB o_AB a_AB
  obtain ⟨lBC, hlBC⟩ : ∃ qq, (entC (joinE (fitE crt y) (fitE crt z))).toArray = qq := ⟨_, rfl⟩
  rw [hlBC] at HJ3 HJ5 s_BC o_BC a_BC
  obtain ⟨lA, hlA⟩ : ∃ qq, (entC (fitE crt x)).toArray = qq := ⟨_, rfl⟩
  rw [hlA] at HFA HJ1 HJ2 HJ5 HJ6 HC1 HC3 HC4 HC7 HC8 HC0 hqA hqN s_A o_A a_A
  obtain ⟨lB, hlB⟩ : ∃ qq, (entC (fitE crt y)).toArray = qq := ⟨_, rfl⟩
  rw [hlB] at HFB HJ1 HJ2 HJ3 HC2 HC5 HC7 HC8 HC9 hqN s_B o_B a_B
  obtain ⟨lC, hlC⟩ : ∃ qq, (entC (fitE crt z)).toArray = qq := ⟨_, rfl⟩
  rw [hlC] at HFC HJ3 HJ4 HC4 HC5 HC6 HC9 HC0 s_C o_C a_C
  obtain ⟨lX, hlX⟩ : ∃ qq, (entC x).toArray = qq := ⟨_, rfl⟩
  rw [hlX] at HFA s_X ⊢
  obtain ⟨lY, hlY⟩ : ∃ qq, (entC y).toArray = qq := ⟨_, rfl⟩
  rw [hlY] at HFB s_Y ⊢
  obtain ⟨lZ, hlZ⟩ : ∃ qq, (entC z).toArray = qq := ⟨_, rfl⟩
  rw [hlZ] at HFC s_Z ⊢
  obtain ⟨lT, hlT⟩ : ∃ qq, (crtC crt).toArray = qq := ⟨_, rfl⟩
  rw [hlT] at HFA HFB HFC s_t ⊢
  obtain ⟨lz, hlz⟩ : ∃ qq, (entC zeroEnt).toArray = qq := ⟨_, rfl⟩
  rw [hlz] at HZE o_A o_B o_C o_AB o_BC o_L
  clear hlL hlAB hlBC hlA hlB hlC hlX hlY hlZ hlT hlz oL oBC oAB oC oB oA fA fB fC hcrt hx hy hz
  go_enter Try.func4, Try.ntmps4
  go_wp2_with (with_reducible refine arm_box (by with_unfolding_all exact rfl) ?_)
  intro gT x1 hb hk hU hz
  change x1.heap[gT]? = some (.cells lT 27 (0, 0)) at hk
  have hVx1 : Upd [] w x1 := hU
  have kT := hk
  clear hb hk hU hz
  go_wp2_with (with_reducible refine arm_box (by with_unfolding_all exact rfl) ?_)
  intro gX x2 hb hk hU hz
  change x2.heap[gX]? = some (.cells lX 29 (0, 0)) at hk
  have kT' := hU.heap kT (by simp)
  clear kT
  have kT := kT'
  clear kT'
  have hVx2 := hVx1.trans hU
  clear hVx1
  have kX := hk
  clear hb hk hU hz
  go_wp2_with (with_reducible refine arm_box (by with_unfolding_all exact rfl) ?_)
  intro gY x3 hb hk hU hz
  change x3.heap[gY]? = some (.cells lY 29 (0, 0)) at hk
  have kT' := hU.heap kT (by simp)
  clear kT
  have kT := kT'
  clear kT'
  have kX' := hU.heap kX (by simp)
  clear kX
  have kX := kX'
  clear kX'
  have hVx3 := hVx2.trans hU
  clear hVx2
  have kY := hk
  clear hb hk hU hz
  go_wp2_with (with_reducible refine arm_box (by with_unfolding_all exact rfl) ?_)
  intro gZ x4 hb hk hU hz
  change x4.heap[gZ]? = some (.cells lZ 29 (0, 0)) at hk
  have kT' := hU.heap kT (by simp)
  clear kT
  have kT := kT'
  clear kT'
  have kX' := hU.heap kX (by simp)
  clear kX
  have kX := kX'
  clear kX'
  have kY' := hU.heap kY (by simp)
  clear kY
  have kY := kY'
  clear kY'
  have hVx4 := hVx3.trans hU
  clear hVx3
  have kZ := hk
  clear hb hk hU hz
  go_upto_region 1 with (fail)
  go_simp
  go_wp2_with (first
      | (with_reducible refine arm_load (by with_unfolding_all exact rfl) kT Try.underlying27 (by with_unfolding_all exact rfl) s_t ?_)
      | (with_reducible refine arm_load (by with_unfolding_all exact rfl) kX Try.underlying29 (by with_unfolding_all exact rfl) s_X ?_)
      )
  with_reducible refine (HFA.out _).mono ?_
  rintro e z5 ⟨rfl, hU⟩
  have kT' := hU.heap kT (by simp)
  clear kT
  have kT := kT'
  clear kT'
  have kX' := hU.heap kX (by simp)
  clear kX
  have kX := kX'
  clear kX'
  have kY' := hU.heap kY (by simp)
  clear kY
  have kY := kY'
  clear kY'
  have kZ' := hU.heap kZ (by simp)
  clear kZ
  have kZ := kZ'
  clear kZ'
  have hVz5 := hVx4.trans hU
  clear hVx4
  clear hU
  go_wp2_with (with_reducible refine arm_alloc (HZE.out _) ?_)
  intro gA x6 hb hk hU hz
  change x6.heap[gA]? = some (.cells lz 29 (0, 0)) at hk
  go_wp2_with (with_reducible refine arm_store (by with_unfolding_all exact rfl) (by with_unfolding_all exact rfl) hk s_A o_A a_A ?_)
  intro y6 kA hX hzz
  have hT := hU.fresh hb hX
  have kT' := hT.heap kT (by simp)
  clear kT
  have kT := kT'
  clear kT'
  have kX' := hT.heap kX (by simp)
  clear kX
  have kX := kX'
  clear kX'
  have kY' := hT.heap kY (by simp)
  clear kY
  have kY := kY'
  clear kY'
  have kZ' := hT.heap kZ (by simp)
  clear kZ
  have kZ := kZ'
  clear kZ'
  have hVy6 := hVz5.trans hT
  clear hVz5
  clear hb hk hU hz hX hzz hT
  clear kX
  go_upto_region 2 with (fail)
  go_simp
  go_wp2_with (first
      | (with_reducible refine arm_load (by with_unfolding_all exact rfl) kT Try.underlying27 (by with_unfolding_all exact rfl) s_t ?_)
      | (with_reducible refine arm_load (by with_unfolding_all exact rfl) kY Try.underlying29 (by with_unfolding_all exact rfl) s_Y ?_)
      )
  with_reducible refine (HFB.out _).mono ?_
  rintro e z7 ⟨rfl, hU⟩
  have kT' := hU.heap kT (by simp)
  clear kT
  have kT := kT'
  clear kT'
  have kY' := hU.heap kY (by simp)
  clear kY
  have kY := kY'
  clear kY'
  have kZ' := hU.heap kZ (by simp)
  clear kZ
  have kZ := kZ'
  clear kZ'
  have kA' := hU.heap kA (by simp)
  clear kA
  have kA := kA'
  clear kA'
  have hVz7 := hVy6.trans hU
  clear hVy6
  clear hU
  go_wp2_with (with_reducible refine arm_alloc (HZE.out _) ?_)
  intro gB x8 hb hk hU hz
  change x8.heap[gB]? = some (.cells lz 29 (0, 0)) at hk
  go_wp2_with (with_reducible refine arm_store (by with_unfolding_all exact rfl) (by with_unfolding_all exact rfl) hk s_B o_B a_B ?_)
  intro y8 kB hX hzz
  have hT := hU.fresh hb hX
  have kT' := hT.heap kT (by simp)
  clear kT
  have kT := kT'
  clear kT'
  have kY' := hT.heap kY (by simp)
  clear kY
  have kY := kY'
  clear kY'
  have kZ' := hT.heap kZ (by simp)
  clear kZ
  have kZ := kZ'
  clear kZ'
  have kA' := hT.heap kA (by simp)
  clear kA
  have kA := kA'
  clear kA'
  have hVy8 := hVz7.trans hT
  clear hVz7
  clear hb hk hU hz hX hzz hT
  clear kY
  go_upto_region 3 with (fail)
  go_simp
  go_wp2_with (first
      | (with_reducible refine arm_load (by with_unfolding_all exact rfl) kT Try.underlying27 (by with_unfolding_all exact rfl) s_t ?_)
      | (with_reducible refine arm_load (by with_unfolding_all exact rfl) kZ Try.underlying29 (by with_unfolding_all exact rfl) s_Z ?_)
      )
  with_reducible refine (HFC.out _).mono ?_
  rintro e z9 ⟨rfl, hU⟩
  have kT' := hU.heap kT (by simp)
  clear kT
  have kT := kT'
  clear kT'
  have kZ' := hU.heap kZ (by simp)
  clear kZ
  have kZ := kZ'
  clear kZ'
  have kA' := hU.heap kA (by simp)
  clear kA
  have kA := kA'
  clear kA'
  have kB' := hU.heap kB (by simp)
  clear kB
  have kB := kB'
  clear kB'
  have hVz9 := hVy8.trans hU
  clear hVy8
  clear hU
  go_wp2_with (with_reducible refine arm_alloc (HZE.out _) ?_)
  intro gC x10 hb hk hU hz
  change x10.heap[gC]? = some (.cells lz 29 (0, 0)) at hk
  go_wp2_with (with_reducible refine arm_store (by with_unfolding_all exact rfl) (by with_unfolding_all exact rfl) hk s_C o_C a_C ?_)
  intro y10 kC hX hzz
  have hT := hU.fresh hb hX
  have kT' := hT.heap kT (by simp)
  clear kT
  have kT := kT'
  clear kT'
  have kZ' := hT.heap kZ (by simp)
  clear kZ
  have kZ := kZ'
  clear kZ'
  have kA' := hT.heap kA (by simp)
  clear kA
  have kA := kA'
  clear kA'
  have kB' := hT.heap kB (by simp)
  clear kB
  have kB := kB'
  clear kB'
  have hVy10 := hVz9.trans hT
  clear hVz9
  clear hb hk hU hz hX hzz hT
  clear kZ kT s_X s_Y s_Z s_t
  go_upto_region 4 with (fail)
  go_simp
  go_wp2_with (first
      | (with_reducible refine arm_load (by with_unfolding_all exact rfl) kA Try.underlying29 (by with_unfolding_all exact rfl) s_A ?_)
      | (with_reducible refine arm_load (by with_unfolding_all exact rfl) kB Try.underlying29 (by with_unfolding_all exact rfl) s_B ?_)
      )
  with_reducible refine (HJ1.out _).mono ?_
  rintro e z11 ⟨rfl, hU⟩
  have kA' := hU.heap kA (by simp)
  clear kA
  have kA := kA'
  clear kA'
  have kB' := hU.heap kB (by simp)
  clear kB
  have kB := kB'
  clear kB'
  have kC' := hU.heap kC (by simp)
  clear kC
  have kC := kC'
  clear kC'
  have hVz11 := hVy10.trans hU
  clear hVy10
  clear hU
  go_wp2_with (with_reducible refine arm_alloc (HZE.out _) ?_)
  intro gAB x12 hb hk hU hz
  change x12.heap[gAB]? = some (.cells lz 29 (0, 0)) at hk
  go_wp2_with (with_reducible refine arm_store (by with_unfolding_all exact rfl) (by with_unfolding_all exact rfl) hk s_AB o_AB a_AB ?_)
  intro y12 kAB hX hzz
  have hT := hU.fresh hb hX
  have kA' := hT.heap kA (by simp)
  clear kA
  have kA := kA'
  clear kA'
  have kB' := hT.heap kB (by simp)
  clear kB
  have kB := kB'
  clear kB'
  have kC' := hT.heap kC (by simp)
  clear kC
  have kC := kC'
  clear kC'
  have hVy12 := hVz11.trans hT
  clear hVz11
  clear hb hk hU hz hX hzz hT
  go_upto_region 5 with (fail)
  go_simp
  go_wp2_with (first
      | (with_reducible refine arm_load (by with_unfolding_all exact rfl) kB Try.underlying29 (by with_unfolding_all exact rfl) s_B ?_)
      | (with_reducible refine arm_load (by with_unfolding_all exact rfl) kA Try.underlying29 (by with_unfolding_all exact rfl) s_A ?_)
      )
  with_reducible refine (HJ2.out _).mono ?_
  rintro e z13 ⟨rfl, hU⟩
  have kA' := hU.heap kA (by simp)
  clear kA
  have kA := kA'
  clear kA'
  have kB' := hU.heap kB (by simp)
  clear kB
  have kB := kB'
  clear kB'
  have kC' := hU.heap kC (by simp)
  clear kC
  have kC := kC'
  clear kC'
  have kAB' := hU.heap kAB (by simp)
  clear kAB
  have kAB := kAB'
  clear kAB'
  have hVz13 := hVy12.trans hU
  clear hVy12
  clear hU
  go_wp2_with (with_reducible refine arm_alloc (HZE.out _) ?_)
  intro gBA x14 hb hk hU hz
  change x14.heap[gBA]? = some (.cells lz 29 (0, 0)) at hk
  go_wp2_with (with_reducible refine arm_store (by with_unfolding_all exact rfl) (by with_unfolding_all exact rfl) hk s_AB o_AB a_AB ?_)
  intro y14 kBA hX hzz
  have hT := hU.fresh hb hX
  have kA' := hT.heap kA (by simp)
  clear kA
  have kA := kA'
  clear kA'
  have kB' := hT.heap kB (by simp)
  clear kB
  have kB := kB'
  clear kB'
  have kC' := hT.heap kC (by simp)
  clear kC
  have kC := kC'
  clear kC'
  have kAB' := hT.heap kAB (by simp)
  clear kAB
  have kAB := kAB'
  clear kAB'
  have hVy14 := hVz13.trans hT
  clear hVz13
  clear hb hk hU hz hX hzz hT
  go_upto_region 6 with (fail)
  go_simp
  go_wp2_with (first
      | (with_reducible refine arm_load (by with_unfolding_all exact rfl) kB Try.underlying29 (by with_unfolding_all exact rfl) s_B ?_)
      | (with_reducible refine arm_load (by with_unfolding_all exact rfl) kC Try.underlying29 (by with_unfolding_all exact rfl) s_C ?_)
      )
  with_reducible refine (HJ3.out _).mono ?_
  rintro e z15 ⟨rfl, hU⟩
  have kA' := hU.heap kA (by simp)
  clear kA
  have kA := kA'
  clear kA'
  have kB' := hU.heap kB (by simp)
  clear kB
  have kB := kB'
  clear kB'
  have kC' := hU.heap kC (by simp)
  clear kC
  have kC := kC'
  clear kC'
  have kAB' := hU.heap kAB (by simp)
  clear kAB
  have kAB := kAB'
  clear kAB'
  have kBA' := hU.heap kBA (by simp)
  clear kBA
  have kBA := kBA'
  clear kBA'
  have hVz15 := hVy14.trans hU
  clear hVy14
  clear hU
  go_wp2_with (with_reducible refine arm_alloc (HZE.out _) ?_)
  intro gBC x16 hb hk hU hz
  change x16.heap[gBC]? = some (.cells lz 29 (0, 0)) at hk
  go_wp2_with (with_reducible refine arm_store (by with_unfolding_all exact rfl) (by with_unfolding_all exact rfl) hk s_BC o_BC a_BC ?_)
  intro y16 kBC hX hzz
  have hT := hU.fresh hb hX
  have kA' := hT.heap kA (by simp)
  clear kA
  have kA := kA'
  clear kA'
  have kB' := hT.heap kB (by simp)
  clear kB
  have kB := kB'
  clear kB'
  have kC' := hT.heap kC (by simp)
  clear kC
  have kC := kC'
  clear kC'
  have kAB' := hT.heap kAB (by simp)
  clear kAB
  have kAB := kAB'
  clear kAB'
  have kBA' := hT.heap kBA (by simp)
  clear kBA
  have kBA := kBA'
  clear kBA'
  have hVy16 := hVz15.trans hT
  clear hVz15
  clear hb hk hU hz hX hzz hT
  go_upto_region 7 with (fail)
  go_simp
  go_wp2_with (first
      | (with_reducible refine arm_load (by with_unfolding_all exact rfl) kAB Try.underlying29 (by with_unfolding_all exact rfl) s_AB ?_)
      | (with_reducible refine arm_load (by with_unfolding_all exact rfl) kC Try.underlying29 (by with_unfolding_all exact rfl) s_C ?_)
      )
  with_reducible refine (HJ4.out _).mono ?_
  rintro e z17 ⟨rfl, hU⟩
  have kA' := hU.heap kA (by simp)
  clear kA
  have kA := kA'
  clear kA'
  have kB' := hU.heap kB (by simp)
  clear kB
  have kB := kB'
  clear kB'
  have kC' := hU.heap kC (by simp)
  clear kC
  have kC := kC'
  clear kC'
  have kAB' := hU.heap kAB (by simp)
  clear kAB
  have kAB := kAB'
  clear kAB'
  have kBA' := hU.heap kBA (by simp)
  clear kBA
  have kBA := kBA'
  clear kBA'
  have kBC' := hU.heap kBC (by simp)
  clear kBC
  have kBC := kBC'
  clear kBC'
  have hVz17 := hVy16.trans hU
  clear hVy16
  clear hU
  go_wp2_with (with_reducible refine arm_alloc (HZE.out _) ?_)
  intro gL x18 hb hk hU hz
  change x18.heap[gL]? = some (.cells lz 29 (0, 0)) at hk
  go_wp2_with (with_reducible refine arm_store (by with_unfolding_all exact rfl) (by with_unfolding_all exact rfl) hk s_L o_L a_L ?_)
  intro y18 kL hX hzz
  have hT := hU.fresh hb hX
  have kA' := hT.heap kA (by simp)
  clear kA
  have kA := kA'
  clear kA'
  have kB' := hT.heap kB (by simp)
  clear kB
  have kB := kB'
  clear kB'
  have kC' := hT.heap kC (by simp)
  clear kC
  have kC := kC'
  clear kC'
  have kAB' := hT.heap kAB (by simp)
  clear kAB
  have kAB := kAB'
  clear kAB'
  have kBA' := hT.heap kBA (by simp)
  clear kBA
  have kBA := kBA'
  clear kBA'
  have kBC' := hT.heap kBC (by simp)
  clear kBC
  have kBC := kBC'
  clear kBC'
  have hVy18 := hVz17.trans hT
  clear hVz17
  clear hb hk hU hz hX hzz hT
  go_upto_region 8 with (fail)
  go_simp
  go_wp2_with (first
      | (with_reducible refine arm_load (by with_unfolding_all exact rfl) kA Try.underlying29 (by with_unfolding_all exact rfl) s_A ?_)
      | (with_reducible refine arm_load (by with_unfolding_all exact rfl) kBC Try.underlying29 (by with_unfolding_all exact rfl) s_BC ?_)
      )
  with_reducible refine (HJ5.out _).mono ?_
  rintro e z19 ⟨rfl, hU⟩
  have kA' := hU.heap kA (by simp)
  clear kA
  have kA := kA'
  clear kA'
  have kB' := hU.heap kB (by simp)
  clear kB
  have kB := kB'
  clear kB'
  have kC' := hU.heap kC (by simp)
  clear kC
  have kC := kC'
  clear kC'
  have kAB' := hU.heap kAB (by simp)
  clear kAB
  have kAB := kAB'
  clear kAB'
  have kBA' := hU.heap kBA (by simp)
  clear kBA
  have kBA := kBA'
  clear kBA'
  have kBC' := hU.heap kBC (by simp)
  clear kBC
  have kBC := kBC'
  clear kBC'
  have kL' := hU.heap kL (by simp)
  clear kL
  have kL := kL'
  clear kL'
  have hVz19 := hVy18.trans hU
  clear hVy18
  clear hU
  go_wp2_with (with_reducible refine arm_alloc (HZE.out _) ?_)
  intro gR x20 hb hk hU hz
  change x20.heap[gR]? = some (.cells lz 29 (0, 0)) at hk
  go_wp2_with (with_reducible refine arm_store (by with_unfolding_all exact rfl) (by with_unfolding_all exact rfl) hk s_L o_L a_L ?_)
  intro y20 kR hX hzz
  have hT := hU.fresh hb hX
  have kA' := hT.heap kA (by simp)
  clear kA
  have kA := kA'
  clear kA'
  have kB' := hT.heap kB (by simp)
  clear kB
  have kB := kB'
  clear kB'
  have kC' := hT.heap kC (by simp)
  clear kC
  have kC := kC'
  clear kC'
  have kAB' := hT.heap kAB (by simp)
  clear kAB
  have kAB := kAB'
  clear kAB'
  have kBA' := hT.heap kBA (by simp)
  clear kBA
  have kBA := kBA'
  clear kBA'
  have kBC' := hT.heap kBC (by simp)
  clear kBC
  have kBC := kBC'
  clear kBC'
  have kL' := hT.heap kL (by simp)
  clear kL
  have kL := kL'
  clear kL'
  have hVy20 := hVz19.trans hT
  clear hVz19
  clear hb hk hU hz hX hzz hT
  go_upto_region 9 with (fail)
  go_simp
  go_wp2_with (first
      | (with_reducible refine arm_load (by with_unfolding_all exact rfl) kA Try.underlying29 (by with_unfolding_all exact rfl) s_A ?_)
      )
  with_reducible refine (HJ6.out _).mono ?_
  rintro e z21 ⟨rfl, hU⟩
  have kA' := hU.heap kA (by simp)
  clear kA
  have kA := kA'
  clear kA'
  have kB' := hU.heap kB (by simp)
  clear kB
  have kB := kB'
  clear kB'
  have kC' := hU.heap kC (by simp)
  clear kC
  have kC := kC'
  clear kC'
  have kAB' := hU.heap kAB (by simp)
  clear kAB
  have kAB := kAB'
  clear kAB'
  have kBA' := hU.heap kBA (by simp)
  clear kBA
  have kBA := kBA'
  clear kBA'
  have kBC' := hU.heap kBC (by simp)
  clear kBC
  have kBC := kBC'
  clear kBC'
  have kL' := hU.heap kL (by simp)
  clear kL
  have kL := kL'
  clear kL'
  have kR' := hU.heap kR (by simp)
  clear kR
  have kR := kR'
  clear kR'
  have hVz21 := hVy20.trans hU
  clear hVy20
  clear hU
  go_wp2_with (with_reducible refine arm_alloc (HZE.out _) ?_)
  intro gAA x22 hb hk hU hz
  change x22.heap[gAA]? = some (.cells lz 29 (0, 0)) at hk
  go_wp2_with (with_reducible refine arm_store (by with_unfolding_all exact rfl) (by with_unfolding_all exact rfl) hk s_A o_A a_A ?_)
  intro y22 kAA hX hzz
  have hT := hU.fresh hb hX
  have kA' := hT.heap kA (by simp)
  clear kA
  have kA := kA'
  clear kA'
  have kB' := hT.heap kB (by simp)
  clear kB
  have kB := kB'
  clear kB'
  have kC' := hT.heap kC (by simp)
  clear kC
  have kC := kC'
  clear kC'
  have kAB' := hT.heap kAB (by simp)
  clear kAB
  have kAB := kAB'
  clear kAB'
  have kBA' := hT.heap kBA (by simp)
  clear kBA
  have kBA := kBA'
  clear kBA'
  have kBC' := hT.heap kBC (by simp)
  clear kBC
  have kBC := kBC'
  clear kBC'
  have kL' := hT.heap kL (by simp)
  clear kL
  have kL := kL'
  clear kL'
  have kR' := hT.heap kR (by simp)
  clear kR
  have kR := kR'
  clear kR'
  have hVy22 := hVz21.trans hT
  clear hVz21
  clear hb hk hU hz hX hzz hT
  clear o_A o_B o_C o_AB o_BC o_L a_A a_B a_C a_AB a_BC a_L kBC HJ1 HJ2 HJ3 HJ4 HJ5 HJ6 HFA HFB HFC s_BC
  go_upto_region 10 with (fail)
  go_simp
  go_upto_region 12 with (first
      | (with_reducible refine arm_load (by with_unfolding_all exact rfl) kAB Try.underlying29 (by with_unfolding_all exact rfl) s_AB ?_)
      | (with_reducible refine arm_load_g (by with_unfolding_all exact rfl) (by with_unfolding_all exact rfl) kAB Try.underlying29 (by with_unfolding_all exact rfl) s_AB ?_)
      | (with_reducible refine arm_load (by with_unfolding_all exact rfl) kBA Try.underlying29 (by with_unfolding_all exact rfl) s_AB ?_)
      | (with_reducible refine arm_load_g (by with_unfolding_all exact rfl) (by with_unfolding_all exact rfl) kBA Try.underlying29 (by with_unfolding_all exact rfl) s_AB ?_)
      | (with_reducible refine arm_load (by with_unfolding_all exact rfl) kL Try.underlying29 (by with_unfolding_all exact rfl) s_L ?_)
      | (with_reducible refine arm_load_g (by with_unfolding_all exact rfl) (by with_unfolding_all exact rfl) kL Try.underlying29 (by with_unfolding_all exact rfl) s_L ?_)
      | (with_reducible refine arm_load (by with_unfolding_all exact rfl) kR Try.underlying29 (by with_unfolding_all exact rfl) s_L ?_)
      | (with_reducible refine arm_load_g (by with_unfolding_all exact rfl) (by with_unfolding_all exact rfl) kR Try.underlying29 (by with_unfolding_all exact rfl) s_L ?_)
      | (with_reducible refine arm_load (by with_unfolding_all exact rfl) kAA Try.underlying29 (by with_unfolding_all exact rfl) s_A ?_)
      | (with_reducible refine arm_load_g (by with_unfolding_all exact rfl) (by with_unfolding_all exact rfl) kAA Try.underlying29 (by with_unfolding_all exact rfl) s_A ?_)
      | (with_reducible refine arm_load (by with_unfolding_all exact rfl) kA Try.underlying29 (by with_unfolding_all exact rfl) s_A ?_)
      | (with_reducible refine arm_load_g (by with_unfolding_all exact rfl) (by with_unfolding_all exact rfl) kA Try.underlying29 (by with_unfolding_all exact rfl) s_A ?_)
      | (with_reducible refine arm_load (by with_unfolding_all exact rfl) kB Try.underlying29 (by with_unfolding_all exact rfl) s_B ?_)
      | (with_reducible refine arm_load_g (by with_unfolding_all exact rfl) (by with_unfolding_all exact rfl) kB Try.underlying29 (by with_unfolding_all exact rfl) s_B ?_)
      | (with_reducible refine arm_load (by with_unfolding_all exact rfl) kC Try.underlying29 (by with_unfolding_all exact rfl) s_C ?_)
      | (with_reducible refine arm_load_g (by with_unfolding_all exact rfl) (by with_unfolding_all exact rfl) kC Try.underlying29 (by with_unfolding_all exact rfl) s_C ?_)
      )
  clear kBA kL kR kAA
  go_upto_region 12 with (fail)
  go_simp
  go_wp2_with (first
      | (with_reducible refine arm_load (by with_unfolding_all exact rfl) kAB Try.underlying29 (by with_unfolding_all exact rfl) s_AB ?_)
      | (with_reducible refine arm_load_g (by with_unfolding_all exact rfl) (by with_unfolding_all exact rfl) kAB Try.underlying29 (by with_unfolding_all exact rfl) s_AB ?_)
      | (with_reducible refine arm_load (by with_unfolding_all exact rfl) kA Try.underlying29 (by with_unfolding_all exact rfl) s_A ?_)
      | (with_reducible refine arm_load_g (by with_unfolding_all exact rfl) (by with_unfolding_all exact rfl) kA Try.underlying29 (by with_unfolding_all exact rfl) s_A ?_)
      | (with_reducible refine arm_load (by with_unfolding_all exact rfl) kB Try.underlying29 (by with_unfolding_all exact rfl) s_B ?_)
      | (with_reducible refine arm_load_g (by with_unfolding_all exact rfl) (by with_unfolding_all exact rfl) kB Try.underlying29 (by with_unfolding_all exact rfl) s_B ?_)
      | (with_reducible refine arm_load (by with_unfolding_all exact rfl) kC Try.underlying29 (by with_unfolding_all exact rfl) s_C ?_)
      | (with_reducible refine arm_load_g (by with_unfolding_all exact rfl) (by with_unfolding_all exact rfl) kC Try.underlying29 (by with_unfolding_all exact rfl) s_C ?_)
      )
  with_reducible refine (HC1.out _).mono ?_
  rintro e y23 ⟨rfl, hU⟩
  have kA' := hU.heap kA (by simp)
  clear kA
  have kA := kA'
  clear kA'
  have kB' := hU.heap kB (by simp)
  clear kB
  have kB := kB'
  clear kB'
  have kC' := hU.heap kC (by simp)
  clear kC
  have kC := kC'
  clear kC'
  have kAB' := hU.heap kAB (by simp)
  clear kAB
  have kAB := kAB'
  clear kAB'
  have hVy23 := hVy22.trans hU
  clear hVy22 hU
  go_wp2_with (first
      | (with_reducible refine arm_load (by with_unfolding_all exact rfl) kAB Try.underlying29 (by with_unfolding_all exact rfl) s_AB ?_)
      | (with_reducible refine arm_load_g (by with_unfolding_all exact rfl) (by with_unfolding_all exact rfl) kAB Try.underlying29 (by with_unfolding_all exact rfl) s_AB ?_)
      | (with_reducible refine arm_load (by with_unfolding_all exact rfl) kA Try.underlying29 (by with_unfolding_all exact rfl) s_A ?_)
      | (with_reducible refine arm_load_g (by with_unfolding_all exact rfl) (by with_unfolding_all exact rfl) kA Try.underlying29 (by with_unfolding_all exact rfl) s_A ?_)
      | (with_reducible refine arm_load (by with_unfolding_all exact rfl) kB Try.underlying29 (by with_unfolding_all exact rfl) s_B ?_)
      | (with_reducible refine arm_load_g (by with_unfolding_all exact rfl) (by with_unfolding_all exact rfl) kB Try.underlying29 (by with_unfolding_all exact rfl) s_B ?_)
      | (with_reducible refine arm_load (by with_unfolding_all exact rfl) kC Try.underlying29 (by with_unfolding_all exact rfl) s_C ?_)
      | (with_reducible refine arm_load_g (by with_unfolding_all exact rfl) (by with_unfolding_all exact rfl) kC Try.underlying29 (by with_unfolding_all exact rfl) s_C ?_)
      )
  with_reducible refine (HC2.out _).mono ?_
  rintro e y24 ⟨rfl, hU⟩
  have kA' := hU.heap kA (by simp)
  clear kA
  have kA := kA'
  clear kA'
  have kB' := hU.heap kB (by simp)
  clear kB
  have kB := kB'
  clear kB'
  have kC' := hU.heap kC (by simp)
  clear kC
  have kC := kC'
  clear kC'
  have kAB' := hU.heap kAB (by simp)
  clear kAB
  have kAB := kAB'
  clear kAB'
  have hVy24 := hVy23.trans hU
  clear hVy23 hU
  go_wp2_with (first
      | (with_reducible refine arm_load (by with_unfolding_all exact rfl) kAB Try.underlying29 (by with_unfolding_all exact rfl) s_AB ?_)
      | (with_reducible refine arm_load_g (by with_unfolding_all exact rfl) (by with_unfolding_all exact rfl) kAB Try.underlying29 (by with_unfolding_all exact rfl) s_AB ?_)
      | (with_reducible refine arm_load (by with_unfolding_all exact rfl) kA Try.underlying29 (by with_unfolding_all exact rfl) s_A ?_)
      | (with_reducible refine arm_load_g (by with_unfolding_all exact rfl) (by with_unfolding_all exact rfl) kA Try.underlying29 (by with_unfolding_all exact rfl) s_A ?_)
      | (with_reducible refine arm_load (by with_unfolding_all exact rfl) kB Try.underlying29 (by with_unfolding_all exact rfl) s_B ?_)
      | (with_reducible refine arm_load_g (by with_unfolding_all exact rfl) (by with_unfolding_all exact rfl) kB Try.underlying29 (by with_unfolding_all exact rfl) s_B ?_)
      | (with_reducible refine arm_load (by with_unfolding_all exact rfl) kC Try.underlying29 (by with_unfolding_all exact rfl) s_C ?_)
      | (with_reducible refine arm_load_g (by with_unfolding_all exact rfl) (by with_unfolding_all exact rfl) kC Try.underlying29 (by with_unfolding_all exact rfl) s_C ?_)
      )
  with_reducible refine (HC3.out _).mono ?_
  rintro e y25 ⟨rfl, hU⟩
  have kA' := hU.heap kA (by simp)
  clear kA
  have kA := kA'
  clear kA'
  have kB' := hU.heap kB (by simp)
  clear kB
  have kB := kB'
  clear kB'
  have kC' := hU.heap kC (by simp)
  clear kC
  have kC := kC'
  clear kC'
  have kAB' := hU.heap kAB (by simp)
  clear kAB
  have kAB := kAB'
  clear kAB'
  have hVy25 := hVy24.trans hU
  clear hVy24 hU
  cases c4 with
  | false =>
    go_upto_region 14 with (first
        | (with_reducible refine arm_load (by with_unfolding_all exact rfl) kAB Try.underlying29 (by with_unfolding_all exact rfl) s_AB ?_)
        | (with_reducible refine arm_load_g (by with_unfolding_all exact rfl) (by with_unfolding_all exact rfl) kAB Try.underlying29 (by with_unfolding_all exact rfl) s_AB ?_)
        | (with_reducible refine arm_load (by with_unfolding_all exact rfl) kA Try.underlying29 (by with_unfolding_all exact rfl) s_A ?_)
        | (with_reducible refine arm_load_g (by with_unfolding_all exact rfl) (by with_unfolding_all exact rfl) kA Try.underlying29 (by with_unfolding_all exact rfl) s_A ?_)
        | (with_reducible refine arm_load (by with_unfolding_all exact rfl) kB Try.underlying29 (by with_unfolding_all exact rfl) s_B ?_)
        | (with_reducible refine arm_load_g (by with_unfolding_all exact rfl) (by with_unfolding_all exact rfl) kB Try.underlying29 (by with_unfolding_all exact rfl) s_B ?_)
        | (with_reducible refine arm_load (by with_unfolding_all exact rfl) kC Try.underlying29 (by with_unfolding_all exact rfl) s_C ?_)
        | (with_reducible refine arm_load_g (by with_unfolding_all exact rfl) (by with_unfolding_all exact rfl) kC Try.underlying29 (by with_unfolding_all exact rfl) s_C ?_)
        )
    go_simp
    go_wp2_with (first
        | (with_reducible refine arm_load (by with_unfolding_all exact rfl) kAB Try.underlying29 (by with_unfolding_all exact rfl) s_AB ?_)
        | (with_reducible refine arm_load_g (by with_unfolding_all exact rfl) (by with_unfolding_all exact rfl) kAB Try.underlying29 (by with_unfolding_all exact rfl) s_AB ?_)
        | (with_reducible refine arm_load (by with_unfolding_all exact rfl) kA Try.underlying29 (by with_unfolding_all exact rfl) s_A ?_)
        | (with_reducible refine arm_load_g (by with_unfolding_all exact rfl) (by with_unfolding_all exact rfl) kA Try.underlying29 (by with_unfolding_all exact rfl) s_A ?_)
        | (with_reducible refine arm_load (by with_unfolding_all exact rfl) kB Try.underlying29 (by with_unfolding_all exact rfl) s_B ?_)
        | (with_reducible refine arm_load_g (by with_unfolding_all exact rfl) (by with_unfolding_all exact rfl) kB Try.underlying29 (by with_unfolding_all exact rfl) s_B ?_)
        | (with_reducible refine arm_load (by with_unfolding_all exact rfl) kC Try.underlying29 (by with_unfolding_all exact rfl) s_C ?_)
        | (with_reducible refine arm_load_g (by with_unfolding_all exact rfl) (by with_unfolding_all exact rfl) kC Try.underlying29 (by with_unfolding_all exact rfl) s_C ?_)
        )
    with_reducible refine (HC4.out _).mono ?_
    rintro e y26 ⟨rfl, hU⟩
    have kA' := hU.heap kA (by simp)
    clear kA
    have kA := kA'
    clear kA'
    have kB' := hU.heap kB (by simp)
    clear kB
    have kB := kB'
    clear kB'
    have kC' := hU.heap kC (by simp)
    clear kC
    have kC := kC'
    clear kC'
    have kAB' := hU.heap kAB (by simp)
    clear kAB
    have kAB := kAB'
    clear kAB'
    have hVy26 := hVy25.trans hU
    clear hVy25 hU
    cases c7 with
    | false =>
      go_upto_region 16 with (first
          | (with_reducible refine arm_load (by with_unfolding_all exact rfl) kAB Try.underlying29 (by with_unfolding_all exact rfl) s_AB ?_)
          | (with_reducible refine arm_load_g (by with_unfolding_all exact rfl) (by with_unfolding_all exact rfl) kAB Try.underlying29 (by with_unfolding_all exact rfl) s_AB ?_)
          | (with_reducible refine arm_load (by with_unfolding_all exact rfl) kA Try.underlying29 (by with_unfolding_all exact rfl) s_A ?_)
          | (with_reducible refine arm_load_g (by with_unfolding_all exact rfl) (by with_unfolding_all exact rfl) kA Try.underlying29 (by with_unfolding_all exact rfl) s_A ?_)
          | (with_reducible refine arm_load (by with_unfolding_all exact rfl) kB Try.underlying29 (by with_unfolding_all exact rfl) s_B ?_)
          | (with_reducible refine arm_load_g (by with_unfolding_all exact rfl) (by with_unfolding_all exact rfl) kB Try.underlying29 (by with_unfolding_all exact rfl) s_B ?_)
          | (with_reducible refine arm_load (by with_unfolding_all exact rfl) kC Try.underlying29 (by with_unfolding_all exact rfl) s_C ?_)
          | (with_reducible refine arm_load_g (by with_unfolding_all exact rfl) (by with_unfolding_all exact rfl) kC Try.underlying29 (by with_unfolding_all exact rfl) s_C ?_)
          )
      go_simp
      go_wp2_with (first
          | (with_reducible refine arm_load (by with_unfolding_all exact rfl) kAB Try.underlying29 (by with_unfolding_all exact rfl) s_AB ?_)
          | (with_reducible refine arm_load_g (by with_unfolding_all exact rfl) (by with_unfolding_all exact rfl) kAB Try.underlying29 (by with_unfolding_all exact rfl) s_AB ?_)
          | (with_reducible refine arm_load (by with_unfolding_all exact rfl) kA Try.underlying29 (by with_unfolding_all exact rfl) s_A ?_)
          | (with_reducible refine arm_load_g (by with_unfolding_all exact rfl) (by with_unfolding_all exact rfl) kA Try.underlying29 (by with_unfolding_all exact rfl) s_A ?_)
          | (with_reducible refine arm_load (by with_unfolding_all exact rfl) kB Try.underlying29 (by with_unfolding_all exact rfl) s_B ?_)
          | (with_reducible refine arm_load_g (by with_unfolding_all exact rfl) (by with_unfolding_all exact rfl) kB Try.underlying29 (by with_unfolding_all exact rfl) s_B ?_)
          | (with_reducible refine arm_load (by with_unfolding_all exact rfl) kC Try.underlying29 (by with_unfolding_all exact rfl) s_C ?_)
          | (with_reducible refine arm_load_g (by with_unfolding_all exact rfl) (by with_unfolding_all exact rfl) kC Try.underlying29 (by with_unfolding_all exact rfl) s_C ?_)
          )
      with_reducible refine (HC7.out _).mono ?_
      rintro e y27 ⟨rfl, hU⟩
      have kA' := hU.heap kA (by simp)
      clear kA
      have kA := kA'
      clear kA'
      have kB' := hU.heap kB (by simp)
      clear kB
      have kB := kB'
      clear kB'
      have kC' := hU.heap kC (by simp)
      clear kC
      have kC := kC'
      clear kC'
      have kAB' := hU.heap kAB (by simp)
      clear kAB
      have kAB := kAB'
      clear kAB'
      have hVy27 := hVy26.trans hU
      clear hVy26 hU
      go_upto_region 18 with (first
          | (with_reducible refine arm_load (by with_unfolding_all exact rfl) kAB Try.underlying29 (by with_unfolding_all exact rfl) s_AB ?_)
          | (with_reducible refine arm_load_g (by with_unfolding_all exact rfl) (by with_unfolding_all exact rfl) kAB Try.underlying29 (by with_unfolding_all exact rfl) s_AB ?_)
          | (with_reducible refine arm_load (by with_unfolding_all exact rfl) kA Try.underlying29 (by with_unfolding_all exact rfl) s_A ?_)
          | (with_reducible refine arm_load_g (by with_unfolding_all exact rfl) (by with_unfolding_all exact rfl) kA Try.underlying29 (by with_unfolding_all exact rfl) s_A ?_)
          | (with_reducible refine arm_load (by with_unfolding_all exact rfl) kB Try.underlying29 (by with_unfolding_all exact rfl) s_B ?_)
          | (with_reducible refine arm_load_g (by with_unfolding_all exact rfl) (by with_unfolding_all exact rfl) kB Try.underlying29 (by with_unfolding_all exact rfl) s_B ?_)
          | (with_reducible refine arm_load (by with_unfolding_all exact rfl) kC Try.underlying29 (by with_unfolding_all exact rfl) s_C ?_)
          | (with_reducible refine arm_load_g (by with_unfolding_all exact rfl) (by with_unfolding_all exact rfl) kC Try.underlying29 (by with_unfolding_all exact rfl) s_C ?_)
          )
      go_simp
      go_wp2_with (first
          | (with_reducible refine arm_load (by with_unfolding_all exact rfl) kAB Try.underlying29 (by with_unfolding_all exact rfl) s_AB ?_)
          | (with_reducible refine arm_load_g (by with_unfolding_all exact rfl) (by with_unfolding_all exact rfl) kAB Try.underlying29 (by with_unfolding_all exact rfl) s_AB ?_)
          | (with_reducible refine arm_load (by with_unfolding_all exact rfl) kA Try.underlying29 (by with_unfolding_all exact rfl) s_A ?_)
          | (with_reducible refine arm_load_g (by with_unfolding_all exact rfl) (by with_unfolding_all exact rfl) kA Try.underlying29 (by with_unfolding_all exact rfl) s_A ?_)
          | (with_reducible refine arm_load (by with_unfolding_all exact rfl) kB Try.underlying29 (by with_unfolding_all exact rfl) s_B ?_)
          | (with_reducible refine arm_load_g (by with_unfolding_all exact rfl) (by with_unfolding_all exact rfl) kB Try.underlying29 (by with_unfolding_all exact rfl) s_B ?_)
          | (with_reducible refine arm_load (by with_unfolding_all exact rfl) kC Try.underlying29 (by with_unfolding_all exact rfl) s_C ?_)
          | (with_reducible refine arm_load_g (by with_unfolding_all exact rfl) (by with_unfolding_all exact rfl) kC Try.underlying29 (by with_unfolding_all exact rfl) s_C ?_)
          )
      with_reducible refine (HC7.out _).mono ?_
      rintro e y28 ⟨rfl, hU⟩
      have kA' := hU.heap kA (by simp)
      clear kA
      have kA := kA'
      clear kA'
      have kB' := hU.heap kB (by simp)
      clear kB
      have kB := kB'
      clear kB'
      have kC' := hU.heap kC (by simp)
      clear kC
      have kC := kC'
      clear kC'
      have kAB' := hU.heap kAB (by simp)
      clear kAB
      have kAB := kAB'
      clear kAB'
      have hVy28 := hVy27.trans hU
      clear hVy27 hU
      go_upto_region 20 with (first
          | (with_reducible refine arm_load (by with_unfolding_all exact rfl) kAB Try.underlying29 (by with_unfolding_all exact rfl) s_AB ?_)
          | (with_reducible refine arm_load_g (by with_unfolding_all exact rfl) (by with_unfolding_all exact rfl) kAB Try.underlying29 (by with_unfolding_all exact rfl) s_AB ?_)
          | (with_reducible refine arm_load (by with_unfolding_all exact rfl) kA Try.underlying29 (by with_unfolding_all exact rfl) s_A ?_)
          | (with_reducible refine arm_load_g (by with_unfolding_all exact rfl) (by with_unfolding_all exact rfl) kA Try.underlying29 (by with_unfolding_all exact rfl) s_A ?_)
          | (with_reducible refine arm_load (by with_unfolding_all exact rfl) kB Try.underlying29 (by with_unfolding_all exact rfl) s_B ?_)
          | (with_reducible refine arm_load_g (by with_unfolding_all exact rfl) (by with_unfolding_all exact rfl) kB Try.underlying29 (by with_unfolding_all exact rfl) s_B ?_)
          | (with_reducible refine arm_load (by with_unfolding_all exact rfl) kC Try.underlying29 (by with_unfolding_all exact rfl) s_C ?_)
          | (with_reducible refine arm_load_g (by with_unfolding_all exact rfl) (by with_unfolding_all exact rfl) kC Try.underlying29 (by with_unfolding_all exact rfl) s_C ?_)
          )
      go_simp
      go_wp2_with (fail)
      with_reducible refine (HKN.out _).mono ?_
      rintro e wz ⟨rfl, hU⟩
      go_wp2_with (fail)
      go_ret
      exact ⟨rfl, hVy28.trans hU⟩
    | true =>
      cases c8 with
      | false =>
        go_upto_region 16 with (first
            | (with_reducible refine arm_load (by with_unfolding_all exact rfl) kAB Try.underlying29 (by with_unfolding_all exact rfl) s_AB ?_)
            | (with_reducible refine arm_load_g (by with_unfolding_all exact rfl) (by with_unfolding_all exact rfl) kAB Try.underlying29 (by with_unfolding_all exact rfl) s_AB ?_)
            | (with_reducible refine arm_load (by with_unfolding_all exact rfl) kA Try.underlying29 (by with_unfolding_all exact rfl) s_A ?_)
            | (with_reducible refine arm_load_g (by with_unfolding_all exact rfl) (by with_unfolding_all exact rfl) kA Try.underlying29 (by with_unfolding_all exact rfl) s_A ?_)
            | (with_reducible refine arm_load (by with_unfolding_all exact rfl) kB Try.underlying29 (by with_unfolding_all exact rfl) s_B ?_)
            | (with_reducible refine arm_load_g (by with_unfolding_all exact rfl) (by with_unfolding_all exact rfl) kB Try.underlying29 (by with_unfolding_all exact rfl) s_B ?_)
            | (with_reducible refine arm_load (by with_unfolding_all exact rfl) kC Try.underlying29 (by with_unfolding_all exact rfl) s_C ?_)
            | (with_reducible refine arm_load_g (by with_unfolding_all exact rfl) (by with_unfolding_all exact rfl) kC Try.underlying29 (by with_unfolding_all exact rfl) s_C ?_)
            )
        go_simp
        go_wp2_with (first
            | (with_reducible refine arm_load (by with_unfolding_all exact rfl) kAB Try.underlying29 (by with_unfolding_all exact rfl) s_AB ?_)
            | (with_reducible refine arm_load_g (by with_unfolding_all exact rfl) (by with_unfolding_all exact rfl) kAB Try.underlying29 (by with_unfolding_all exact rfl) s_AB ?_)
            | (with_reducible refine arm_load (by with_unfolding_all exact rfl) kA Try.underlying29 (by with_unfolding_all exact rfl) s_A ?_)
            | (with_reducible refine arm_load_g (by with_unfolding_all exact rfl) (by with_unfolding_all exact rfl) kA Try.underlying29 (by with_unfolding_all exact rfl) s_A ?_)
            | (with_reducible refine arm_load (by with_unfolding_all exact rfl) kB Try.underlying29 (by with_unfolding_all exact rfl) s_B ?_)
            | (with_reducible refine arm_load_g (by with_unfolding_all exact rfl) (by with_unfolding_all exact rfl) kB Try.underlying29 (by with_unfolding_all exact rfl) s_B ?_)
            | (with_reducible refine arm_load (by with_unfolding_all exact rfl) kC Try.underlying29 (by with_unfolding_all exact rfl) s_C ?_)
            | (with_reducible refine arm_load_g (by with_unfolding_all exact rfl) (by with_unfolding_all exact rfl) kC Try.underlying29 (by with_unfolding_all exact rfl) s_C ?_)
            )
        with_reducible refine (HC7.out _).mono ?_
        rintro e y29 ⟨rfl, hU⟩
        have kA' := hU.heap kA (by simp)
        clear kA
        have kA := kA'
        clear kA'
        have kB' := hU.heap kB (by simp)
        clear kB
        have kB := kB'
        clear kB'
        have kC' := hU.heap kC (by simp)
        clear kC
        have kC := kC'
        clear kC'
        have kAB' := hU.heap kAB (by simp)
        clear kAB
        have kAB := kAB'
        clear kAB'
        have hVy29 := hVy26.trans hU
        clear hVy26 hU
        go_wp2_with (first
            | (with_reducible refine arm_load (by with_unfolding_all exact rfl) kAB Try.underlying29 (by with_unfolding_all exact rfl) s_AB ?_)
            | (with_reducible refine arm_load_g (by with_unfolding_all exact rfl) (by with_unfolding_all exact rfl) kAB Try.underlying29 (by with_unfolding_all exact rfl) s_AB ?_)
            | (with_reducible refine arm_load (by with_unfolding_all exact rfl) kA Try.underlying29 (by with_unfolding_all exact rfl) s_A ?_)
            | (with_reducible refine arm_load_g (by with_unfolding_all exact rfl) (by with_unfolding_all exact rfl) kA Try.underlying29 (by with_unfolding_all exact rfl) s_A ?_)
            | (with_reducible refine arm_load (by with_unfolding_all exact rfl) kB Try.underlying29 (by with_unfolding_all exact rfl) s_B ?_)
            | (with_reducible refine arm_load_g (by with_unfolding_all exact rfl) (by with_unfolding_all exact rfl) kB Try.underlying29 (by with_unfolding_all exact rfl) s_B ?_)
            | (with_reducible refine arm_load (by with_unfolding_all exact rfl) kC Try.underlying29 (by with_unfolding_all exact rfl) s_C ?_)
            | (with_reducible refine arm_load_g (by with_unfolding_all exact rfl) (by with_unfolding_all exact rfl) kC Try.underlying29 (by with_unfolding_all exact rfl) s_C ?_)
            )
        with_reducible refine (HC8.out _).mono ?_
        rintro e y30 ⟨rfl, hU⟩
        have kA' := hU.heap kA (by simp)
        clear kA
        have kA := kA'
        clear kA'
        have kB' := hU.heap kB (by simp)
        clear kB
        have kB := kB'
        clear kB'
        have kC' := hU.heap kC (by simp)
        clear kC
        have kC := kC'
        clear kC'
        have kAB' := hU.heap kAB (by simp)
        clear kAB
        have kAB := kAB'
        clear kAB'
        have hVy30 := hVy29.trans hU
        clear hVy29 hU
        cases c9 with
        | false =>
          go_upto_region 18 with (first
              | (with_reducible refine arm_load (by with_unfolding_all exact rfl) kAB Try.underlying29 (by with_unfolding_all exact rfl) s_AB ?_)
              | (with_reducible refine arm_load_g (by with_unfolding_all exact rfl) (by with_unfolding_all exact rfl) kAB Try.underlying29 (by with_unfolding_all exact rfl) s_AB ?_)
              | (with_reducible refine arm_load (by with_unfolding_all exact rfl) kA Try.underlying29 (by with_unfolding_all exact rfl) s_A ?_)
              | (with_reducible refine arm_load_g (by with_unfolding_all exact rfl) (by with_unfolding_all exact rfl) kA Try.underlying29 (by with_unfolding_all exact rfl) s_A ?_)
              | (with_reducible refine arm_load (by with_unfolding_all exact rfl) kB Try.underlying29 (by with_unfolding_all exact rfl) s_B ?_)
              | (with_reducible refine arm_load_g (by with_unfolding_all exact rfl) (by with_unfolding_all exact rfl) kB Try.underlying29 (by with_unfolding_all exact rfl) s_B ?_)
              | (with_reducible refine arm_load (by with_unfolding_all exact rfl) kC Try.underlying29 (by with_unfolding_all exact rfl) s_C ?_)
              | (with_reducible refine arm_load_g (by with_unfolding_all exact rfl) (by with_unfolding_all exact rfl) kC Try.underlying29 (by with_unfolding_all exact rfl) s_C ?_)
              )
          go_simp
          go_wp2_with (first
              | (with_reducible refine arm_load (by with_unfolding_all exact rfl) kAB Try.underlying29 (by with_unfolding_all exact rfl) s_AB ?_)
              | (with_reducible refine arm_load_g (by with_unfolding_all exact rfl) (by with_unfolding_all exact rfl) kAB Try.underlying29 (by with_unfolding_all exact rfl) s_AB ?_)
              | (with_reducible refine arm_load (by with_unfolding_all exact rfl) kA Try.underlying29 (by with_unfolding_all exact rfl) s_A ?_)
              | (with_reducible refine arm_load_g (by with_unfolding_all exact rfl) (by with_unfolding_all exact rfl) kA Try.underlying29 (by with_unfolding_all exact rfl) s_A ?_)
              | (with_reducible refine arm_load (by with_unfolding_all exact rfl) kB Try.underlying29 (by with_unfolding_all exact rfl) s_B ?_)
              | (with_reducible refine arm_load_g (by with_unfolding_all exact rfl) (by with_unfolding_all exact rfl) kB Try.underlying29 (by with_unfolding_all exact rfl) s_B ?_)
              | (with_reducible refine arm_load (by with_unfolding_all exact rfl) kC Try.underlying29 (by with_unfolding_all exact rfl) s_C ?_)
              | (with_reducible refine arm_load_g (by with_unfolding_all exact rfl) (by with_unfolding_all exact rfl) kC Try.underlying29 (by with_unfolding_all exact rfl) s_C ?_)
              )
          with_reducible refine (HC7.out _).mono ?_
          rintro e y31 ⟨rfl, hU⟩
          have kA' := hU.heap kA (by simp)
          clear kA
          have kA := kA'
          clear kA'
          have kB' := hU.heap kB (by simp)
          clear kB
          have kB := kB'
          clear kB'
          have kC' := hU.heap kC (by simp)
          clear kC
          have kC := kC'
          clear kC'
          have kAB' := hU.heap kAB (by simp)
          clear kAB
          have kAB := kAB'
          clear kAB'
          have hVy31 := hVy30.trans hU
          clear hVy30 hU
          go_wp2_with (first
              | (with_reducible refine arm_load (by with_unfolding_all exact rfl) kAB Try.underlying29 (by with_unfolding_all exact rfl) s_AB ?_)
              | (with_reducible refine arm_load_g (by with_unfolding_all exact rfl) (by with_unfolding_all exact rfl) kAB Try.underlying29 (by with_unfolding_all exact rfl) s_AB ?_)
              | (with_reducible refine arm_load (by with_unfolding_all exact rfl) kA Try.underlying29 (by with_unfolding_all exact rfl) s_A ?_)
              | (with_reducible refine arm_load_g (by with_unfolding_all exact rfl) (by with_unfolding_all exact rfl) kA Try.underlying29 (by with_unfolding_all exact rfl) s_A ?_)
              | (with_reducible refine arm_load (by with_unfolding_all exact rfl) kB Try.underlying29 (by with_unfolding_all exact rfl) s_B ?_)
              | (with_reducible refine arm_load_g (by with_unfolding_all exact rfl) (by with_unfolding_all exact rfl) kB Try.underlying29 (by with_unfolding_all exact rfl) s_B ?_)
              | (with_reducible refine arm_load (by with_unfolding_all exact rfl) kC Try.underlying29 (by with_unfolding_all exact rfl) s_C ?_)
              | (with_reducible refine arm_load_g (by with_unfolding_all exact rfl) (by with_unfolding_all exact rfl) kC Try.underlying29 (by with_unfolding_all exact rfl) s_C ?_)
              )
          with_reducible refine (HC9.out _).mono ?_
          rintro e y32 ⟨rfl, hU⟩
          have kA' := hU.heap kA (by simp)
          clear kA
          have kA := kA'
          clear kA'
          have kB' := hU.heap kB (by simp)
          clear kB
          have kB := kB'
          clear kB'
          have kC' := hU.heap kC (by simp)
          clear kC
          have kC := kC'
          clear kC'
          have kAB' := hU.heap kAB (by simp)
          clear kAB
          have kAB := kAB'
          clear kAB'
          have hVy32 := hVy31.trans hU
          clear hVy31 hU
          go_upto_region 20 with (first
              | (with_reducible refine arm_load (by with_unfolding_all exact rfl) kAB Try.underlying29 (by with_unfolding_all exact rfl) s_AB ?_)
              | (with_reducible refine arm_load_g (by with_unfolding_all exact rfl) (by with_unfolding_all exact rfl) kAB Try.underlying29 (by with_unfolding_all exact rfl) s_AB ?_)
              | (with_reducible refine arm_load (by with_unfolding_all exact rfl) kA Try.underlying29 (by with_unfolding_all exact rfl) s_A ?_)
              | (with_reducible refine arm_load_g (by with_unfolding_all exact rfl) (by with_unfolding_all exact rfl) kA Try.underlying29 (by with_unfolding_all exact rfl) s_A ?_)
              | (with_reducible refine arm_load (by with_unfolding_all exact rfl) kB Try.underlying29 (by with_unfolding_all exact rfl) s_B ?_)
              | (with_reducible refine arm_load_g (by with_unfolding_all exact rfl) (by with_unfolding_all exact rfl) kB Try.underlying29 (by with_unfolding_all exact rfl) s_B ?_)
              | (with_reducible refine arm_load (by with_unfolding_all exact rfl) kC Try.underlying29 (by with_unfolding_all exact rfl) s_C ?_)
              | (with_reducible refine arm_load_g (by with_unfolding_all exact rfl) (by with_unfolding_all exact rfl) kC Try.underlying29 (by with_unfolding_all exact rfl) s_C ?_)
              )
          go_simp
          go_wp2_with (fail)
          with_reducible refine (HKN.out _).mono ?_
          rintro e wz ⟨rfl, hU⟩
          go_wp2_with (fail)
          go_ret
          exact ⟨rfl, hVy32.trans hU⟩
        | true =>
          have hlast := HI3.out (by simp) (by simp)
          subst hlast
          go_upto_region 18 with (first
              | (with_reducible refine arm_load (by with_unfolding_all exact rfl) kAB Try.underlying29 (by with_unfolding_all exact rfl) s_AB ?_)
              | (with_reducible refine arm_load_g (by with_unfolding_all exact rfl) (by with_unfolding_all exact rfl) kAB Try.underlying29 (by with_unfolding_all exact rfl) s_AB ?_)
              | (with_reducible refine arm_load (by with_unfolding_all exact rfl) kA Try.underlying29 (by with_unfolding_all exact rfl) s_A ?_)
              | (with_reducible refine arm_load_g (by with_unfolding_all exact rfl) (by with_unfolding_all exact rfl) kA Try.underlying29 (by with_unfolding_all exact rfl) s_A ?_)
              | (with_reducible refine arm_load (by with_unfolding_all exact rfl) kB Try.underlying29 (by with_unfolding_all exact rfl) s_B ?_)
              | (with_reducible refine arm_load_g (by with_unfolding_all exact rfl) (by with_unfolding_all exact rfl) kB Try.underlying29 (by with_unfolding_all exact rfl) s_B ?_)
              | (with_reducible refine arm_load (by with_unfolding_all exact rfl) kC Try.underlying29 (by with_unfolding_all exact rfl) s_C ?_)
              | (with_reducible refine arm_load_g (by with_unfolding_all exact rfl) (by with_unfolding_all exact rfl) kC Try.underlying29 (by with_unfolding_all exact rfl) s_C ?_)
              )
          go_simp
          go_wp2_with (first
              | (with_reducible refine arm_load (by with_unfolding_all exact rfl) kAB Try.underlying29 (by with_unfolding_all exact rfl) s_AB ?_)
              | (with_reducible refine arm_load_g (by with_unfolding_all exact rfl) (by with_unfolding_all exact rfl) kAB Try.underlying29 (by with_unfolding_all exact rfl) s_AB ?_)
              | (with_reducible refine arm_load (by with_unfolding_all exact rfl) kA Try.underlying29 (by with_unfolding_all exact rfl) s_A ?_)
              | (with_reducible refine arm_load_g (by with_unfolding_all exact rfl) (by with_unfolding_all exact rfl) kA Try.underlying29 (by with_unfolding_all exact rfl) s_A ?_)
              | (with_reducible refine arm_load (by with_unfolding_all exact rfl) kB Try.underlying29 (by with_unfolding_all exact rfl) s_B ?_)
              | (with_reducible refine arm_load_g (by with_unfolding_all exact rfl) (by with_unfolding_all exact rfl) kB Try.underlying29 (by with_unfolding_all exact rfl) s_B ?_)
              | (with_reducible refine arm_load (by with_unfolding_all exact rfl) kC Try.underlying29 (by with_unfolding_all exact rfl) s_C ?_)
              | (with_reducible refine arm_load_g (by with_unfolding_all exact rfl) (by with_unfolding_all exact rfl) kC Try.underlying29 (by with_unfolding_all exact rfl) s_C ?_)
              )
          with_reducible refine (HC7.out _).mono ?_
          rintro e y33 ⟨rfl, hU⟩
          have kA' := hU.heap kA (by simp)
          clear kA
          have kA := kA'
          clear kA'
          have kB' := hU.heap kB (by simp)
          clear kB
          have kB := kB'
          clear kB'
          have kC' := hU.heap kC (by simp)
          clear kC
          have kC := kC'
          clear kC'
          have kAB' := hU.heap kAB (by simp)
          clear kAB
          have kAB := kAB'
          clear kAB'
          have hVy33 := hVy30.trans hU
          clear hVy30 hU
          go_wp2_with (first
              | (with_reducible refine arm_load (by with_unfolding_all exact rfl) kAB Try.underlying29 (by with_unfolding_all exact rfl) s_AB ?_)
              | (with_reducible refine arm_load_g (by with_unfolding_all exact rfl) (by with_unfolding_all exact rfl) kAB Try.underlying29 (by with_unfolding_all exact rfl) s_AB ?_)
              | (with_reducible refine arm_load (by with_unfolding_all exact rfl) kA Try.underlying29 (by with_unfolding_all exact rfl) s_A ?_)
              | (with_reducible refine arm_load_g (by with_unfolding_all exact rfl) (by with_unfolding_all exact rfl) kA Try.underlying29 (by with_unfolding_all exact rfl) s_A ?_)
              | (with_reducible refine arm_load (by with_unfolding_all exact rfl) kB Try.underlying29 (by with_unfolding_all exact rfl) s_B ?_)
              | (with_reducible refine arm_load_g (by with_unfolding_all exact rfl) (by with_unfolding_all exact rfl) kB Try.underlying29 (by with_unfolding_all exact rfl) s_B ?_)
              | (with_reducible refine arm_load (by with_unfolding_all exact rfl) kC Try.underlying29 (by with_unfolding_all exact rfl) s_C ?_)
              | (with_reducible refine arm_load_g (by with_unfolding_all exact rfl) (by with_unfolding_all exact rfl) kC Try.underlying29 (by with_unfolding_all exact rfl) s_C ?_)
              )
          with_reducible refine (HC9.out _).mono ?_
          rintro e y34 ⟨rfl, hU⟩
          have kA' := hU.heap kA (by simp)
          clear kA
          have kA := kA'
          clear kA'
          have kB' := hU.heap kB (by simp)
          clear kB
          have kB := kB'
          clear kB'
          have kC' := hU.heap kC (by simp)
          clear kC
          have kC := kC'
          clear kC'
          have kAB' := hU.heap kAB (by simp)
          clear kAB
          have kAB := kAB'
          clear kAB'
          have hVy34 := hVy33.trans hU
          clear hVy33 hU
          go_wp2_with (first
              | (with_reducible refine arm_load (by with_unfolding_all exact rfl) kAB Try.underlying29 (by with_unfolding_all exact rfl) s_AB ?_)
              | (with_reducible refine arm_load_g (by with_unfolding_all exact rfl) (by with_unfolding_all exact rfl) kAB Try.underlying29 (by with_unfolding_all exact rfl) s_AB ?_)
              | (with_reducible refine arm_load (by with_unfolding_all exact rfl) kA Try.underlying29 (by with_unfolding_all exact rfl) s_A ?_)
              | (with_reducible refine arm_load_g (by with_unfolding_all exact rfl) (by with_unfolding_all exact rfl) kA Try.underlying29 (by with_unfolding_all exact rfl) s_A ?_)
              | (with_reducible refine arm_load (by with_unfolding_all exact rfl) kB Try.underlying29 (by with_unfolding_all exact rfl) s_B ?_)
              | (with_reducible refine arm_load_g (by with_unfolding_all exact rfl) (by with_unfolding_all exact rfl) kB Try.underlying29 (by with_unfolding_all exact rfl) s_B ?_)
              | (with_reducible refine arm_load (by with_unfolding_all exact rfl) kC Try.underlying29 (by with_unfolding_all exact rfl) s_C ?_)
              | (with_reducible refine arm_load_g (by with_unfolding_all exact rfl) (by with_unfolding_all exact rfl) kC Try.underlying29 (by with_unfolding_all exact rfl) s_C ?_)
              )
          with_reducible refine (HC0.out _).mono ?_
          rintro e y35 ⟨rfl, hU⟩
          have kA' := hU.heap kA (by simp)
          clear kA
          have kA := kA'
          clear kA'
          have kB' := hU.heap kB (by simp)
          clear kB
          have kB := kB'
          clear kB'
          have kC' := hU.heap kC (by simp)
          clear kC
          have kC := kC'
          clear kC'
          have kAB' := hU.heap kAB (by simp)
          clear kAB
          have kAB := kAB'
          clear kAB'
          have hVy35 := hVy34.trans hU
          clear hVy34 hU
          go_upto_region 20 with (first
              | (with_reducible refine arm_load (by with_unfolding_all exact rfl) kAB Try.underlying29 (by with_unfolding_all exact rfl) s_AB ?_)
              | (with_reducible refine arm_load_g (by with_unfolding_all exact rfl) (by with_unfolding_all exact rfl) kAB Try.underlying29 (by with_unfolding_all exact rfl) s_AB ?_)
              | (with_reducible refine arm_load (by with_unfolding_all exact rfl) kA Try.underlying29 (by with_unfolding_all exact rfl) s_A ?_)
              | (with_reducible refine arm_load_g (by with_unfolding_all exact rfl) (by with_unfolding_all exact rfl) kA Try.underlying29 (by with_unfolding_all exact rfl) s_A ?_)
              | (with_reducible refine arm_load (by with_unfolding_all exact rfl) kB Try.underlying29 (by with_unfolding_all exact rfl) s_B ?_)
              | (with_reducible refine arm_load_g (by with_unfolding_all exact rfl) (by with_unfolding_all exact rfl) kB Try.underlying29 (by with_unfolding_all exact rfl) s_B ?_)
              | (with_reducible refine arm_load (by with_unfolding_all exact rfl) kC Try.underlying29 (by with_unfolding_all exact rfl) s_C ?_)
              | (with_reducible refine arm_load_g (by with_unfolding_all exact rfl) (by with_unfolding_all exact rfl) kC Try.underlying29 (by with_unfolding_all exact rfl) s_C ?_)
              )
          go_simp
          go_wp2_with (fail)
          with_reducible refine (HKN.out _).mono ?_
          rintro e wz ⟨rfl, hU⟩
          go_wp2_with (fail)
          go_ret
          exact ⟨rfl, hVy35.trans hU⟩
      | true =>
        have hlast := HI2.out (by simp) (by simp)
        subst hlast
        simp only [Bool.not_true] at hqN
        go_upto_region 16 with (first
            | (with_reducible refine arm_load (by with_unfolding_all exact rfl) kAB Try.underlying29 (by with_unfolding_all exact rfl) s_AB ?_)
            | (with_reducible refine arm_load_g (by with_unfolding_all exact rfl) (by with_unfolding_all exact rfl) kAB Try.underlying29 (by with_unfolding_all exact rfl) s_AB ?_)
            | (with_reducible refine arm_load (by with_unfolding_all exact rfl) kA Try.underlying29 (by with_unfolding_all exact rfl) s_A ?_)
            | (with_reducible refine arm_load_g (by with_unfolding_all exact rfl) (by with_unfolding_all exact rfl) kA Try.underlying29 (by with_unfolding_all exact rfl) s_A ?_)
            | (with_reducible refine arm_load (by with_unfolding_all exact rfl) kB Try.underlying29 (by with_unfolding_all exact rfl) s_B ?_)
            | (with_reducible refine arm_load_g (by with_unfolding_all exact rfl) (by with_unfolding_all exact rfl) kB Try.underlying29 (by with_unfolding_all exact rfl) s_B ?_)
            | (with_reducible refine arm_load (by with_unfolding_all exact rfl) kC Try.underlying29 (by with_unfolding_all exact rfl) s_C ?_)
            | (with_reducible refine arm_load_g (by with_unfolding_all exact rfl) (by with_unfolding_all exact rfl) kC Try.underlying29 (by with_unfolding_all exact rfl) s_C ?_)
            )
        go_simp
        go_wp2_with (first
            | (with_reducible refine arm_load (by with_unfolding_all exact rfl) kAB Try.underlying29 (by with_unfolding_all exact rfl) s_AB ?_)
            | (with_reducible refine arm_load_g (by with_unfolding_all exact rfl) (by with_unfolding_all exact rfl) kAB Try.underlying29 (by with_unfolding_all exact rfl) s_AB ?_)
            | (with_reducible refine arm_load (by with_unfolding_all exact rfl) kA Try.underlying29 (by with_unfolding_all exact rfl) s_A ?_)
            | (with_reducible refine arm_load_g (by with_unfolding_all exact rfl) (by with_unfolding_all exact rfl) kA Try.underlying29 (by with_unfolding_all exact rfl) s_A ?_)
            | (with_reducible refine arm_load (by with_unfolding_all exact rfl) kB Try.underlying29 (by with_unfolding_all exact rfl) s_B ?_)
            | (with_reducible refine arm_load_g (by with_unfolding_all exact rfl) (by with_unfolding_all exact rfl) kB Try.underlying29 (by with_unfolding_all exact rfl) s_B ?_)
            | (with_reducible refine arm_load (by with_unfolding_all exact rfl) kC Try.underlying29 (by with_unfolding_all exact rfl) s_C ?_)
            | (with_reducible refine arm_load_g (by with_unfolding_all exact rfl) (by with_unfolding_all exact rfl) kC Try.underlying29 (by with_unfolding_all exact rfl) s_C ?_)
            )
        with_reducible refine (HC7.out _).mono ?_
        rintro e y36 ⟨rfl, hU⟩
        have kA' := hU.heap kA (by simp)
        clear kA
        have kA := kA'
        clear kA'
        have kB' := hU.heap kB (by simp)
        clear kB
        have kB := kB'
        clear kB'
        have kC' := hU.heap kC (by simp)
        clear kC
        have kC := kC'
        clear kC'
        have kAB' := hU.heap kAB (by simp)
        clear kAB
        have kAB := kAB'
        clear kAB'
        have hVy36 := hVy26.trans hU
        clear hVy26 hU
        go_wp2_with (first
            | (with_reducible refine arm_load (by with_unfolding_all exact rfl) kAB Try.underlying29 (by with_unfolding_all exact rfl) s_AB ?_)
            | (with_reducible refine arm_load_g (by with_unfolding_all exact rfl) (by with_unfolding_all exact rfl) kAB Try.underlying29 (by with_unfolding_all exact rfl) s_AB ?_)
            | (with_reducible refine arm_load (by with_unfolding_all exact rfl) kA Try.underlying29 (by with_unfolding_all exact rfl) s_A ?_)
            | (with_reducible refine arm_load_g (by with_unfolding_all exact rfl) (by with_unfolding_all exact rfl) kA Try.underlying29 (by with_unfolding_all exact rfl) s_A ?_)
            | (with_reducible refine arm_load (by with_unfolding_all exact rfl) kB Try.underlying29 (by with_unfolding_all exact rfl) s_B ?_)
            | (with_reducible refine arm_load_g (by with_unfolding_all exact rfl) (by with_unfolding_all exact rfl) kB Try.underlying29 (by with_unfolding_all exact rfl) s_B ?_)
            | (with_reducible refine arm_load (by with_unfolding_all exact rfl) kC Try.underlying29 (by with_unfolding_all exact rfl) s_C ?_)
            | (with_reducible refine arm_load_g (by with_unfolding_all exact rfl) (by with_unfolding_all exact rfl) kC Try.underlying29 (by with_unfolding_all exact rfl) s_C ?_)
            )
        with_reducible refine (HC8.out _).mono ?_
        rintro e y37 ⟨rfl, hU⟩
        have kA' := hU.heap kA (by simp)
        clear kA
        have kA := kA'
        clear kA'
        have kB' := hU.heap kB (by simp)
        clear kB
        have kB := kB'
        clear kB'
        have kC' := hU.heap kC (by simp)
        clear kC
        have kC := kC'
        clear kC'
        have kAB' := hU.heap kAB (by simp)
        clear kAB
        have kAB := kAB'
        clear kAB'
        have hVy37 := hVy36.trans hU
        clear hVy36 hU
        cases c9 with
        | false =>
          go_upto_region 18 with (first
              | (with_reducible refine arm_load (by with_unfolding_all exact rfl) kAB Try.underlying29 (by with_unfolding_all exact rfl) s_AB ?_)
              | (with_reducible refine arm_load_g (by with_unfolding_all exact rfl) (by with_unfolding_all exact rfl) kAB Try.underlying29 (by with_unfolding_all exact rfl) s_AB ?_)
              | (with_reducible refine arm_load (by with_unfolding_all exact rfl) kA Try.underlying29 (by with_unfolding_all exact rfl) s_A ?_)
              | (with_reducible refine arm_load_g (by with_unfolding_all exact rfl) (by with_unfolding_all exact rfl) kA Try.underlying29 (by with_unfolding_all exact rfl) s_A ?_)
              | (with_reducible refine arm_load (by with_unfolding_all exact rfl) kB Try.underlying29 (by with_unfolding_all exact rfl) s_B ?_)
              | (with_reducible refine arm_load_g (by with_unfolding_all exact rfl) (by with_unfolding_all exact rfl) kB Try.underlying29 (by with_unfolding_all exact rfl) s_B ?_)
              | (with_reducible refine arm_load (by with_unfolding_all exact rfl) kC Try.underlying29 (by with_unfolding_all exact rfl) s_C ?_)
              | (with_reducible refine arm_load_g (by with_unfolding_all exact rfl) (by with_unfolding_all exact rfl) kC Try.underlying29 (by with_unfolding_all exact rfl) s_C ?_)
              )
          go_simp
          go_wp2_with (first
              | (with_reducible refine arm_load (by with_unfolding_all exact rfl) kAB Try.underlying29 (by with_unfolding_all exact rfl) s_AB ?_)
              | (with_reducible refine arm_load_g (by with_unfolding_all exact rfl) (by with_unfolding_all exact rfl) kAB Try.underlying29 (by with_unfolding_all exact rfl) s_AB ?_)
              | (with_reducible refine arm_load (by with_unfolding_all exact rfl) kA Try.underlying29 (by with_unfolding_all exact rfl) s_A ?_)
              | (with_reducible refine arm_load_g (by with_unfolding_all exact rfl) (by with_unfolding_all exact rfl) kA Try.underlying29 (by with_unfolding_all exact rfl) s_A ?_)
              | (with_reducible refine arm_load (by with_unfolding_all exact rfl) kB Try.underlying29 (by with_unfolding_all exact rfl) s_B ?_)
              | (with_reducible refine arm_load_g (by with_unfolding_all exact rfl) (by with_unfolding_all exact rfl) kB Try.underlying29 (by with_unfolding_all exact rfl) s_B ?_)
              | (with_reducible refine arm_load (by with_unfolding_all exact rfl) kC Try.underlying29 (by with_unfolding_all exact rfl) s_C ?_)
              | (with_reducible refine arm_load_g (by with_unfolding_all exact rfl) (by with_unfolding_all exact rfl) kC Try.underlying29 (by with_unfolding_all exact rfl) s_C ?_)
              )
          with_reducible refine (HC7.out _).mono ?_
          rintro e y38 ⟨rfl, hU⟩
          have kA' := hU.heap kA (by simp)
          clear kA
          have kA := kA'
          clear kA'
          have kB' := hU.heap kB (by simp)
          clear kB
          have kB := kB'
          clear kB'
          have kC' := hU.heap kC (by simp)
          clear kC
          have kC := kC'
          clear kC'
          have kAB' := hU.heap kAB (by simp)
          clear kAB
          have kAB := kAB'
          clear kAB'
          have hVy38 := hVy37.trans hU
          clear hVy37 hU
          go_wp2_with (first
              | (with_reducible refine arm_load (by with_unfolding_all exact rfl) kAB Try.underlying29 (by with_unfolding_all exact rfl) s_AB ?_)
              | (with_reducible refine arm_load_g (by with_unfolding_all exact rfl) (by with_unfolding_all exact rfl) kAB Try.underlying29 (by with_unfolding_all exact rfl) s_AB ?_)
              | (with_reducible refine arm_load (by with_unfolding_all exact rfl) kA Try.underlying29 (by with_unfolding_all exact rfl) s_A ?_)
              | (with_reducible refine arm_load_g (by with_unfolding_all exact rfl) (by with_unfolding_all exact rfl) kA Try.underlying29 (by with_unfolding_all exact rfl) s_A ?_)
              | (with_reducible refine arm_load (by with_unfolding_all exact rfl) kB Try.underlying29 (by with_unfolding_all exact rfl) s_B ?_)
              | (with_reducible refine arm_load_g (by with_unfolding_all exact rfl) (by with_unfolding_all exact rfl) kB Try.underlying29 (by with_unfolding_all exact rfl) s_B ?_)
              | (with_reducible refine arm_load (by with_unfolding_all exact rfl) kC Try.underlying29 (by with_unfolding_all exact rfl) s_C ?_)
              | (with_reducible refine arm_load_g (by with_unfolding_all exact rfl) (by with_unfolding_all exact rfl) kC Try.underlying29 (by with_unfolding_all exact rfl) s_C ?_)
              )
          with_reducible refine (HC9.out _).mono ?_
          rintro e y39 ⟨rfl, hU⟩
          have kA' := hU.heap kA (by simp)
          clear kA
          have kA := kA'
          clear kA'
          have kB' := hU.heap kB (by simp)
          clear kB
          have kB := kB'
          clear kB'
          have kC' := hU.heap kC (by simp)
          clear kC
          have kC := kC'
          clear kC'
          have kAB' := hU.heap kAB (by simp)
          clear kAB
          have kAB := kAB'
          clear kAB'
          have hVy39 := hVy38.trans hU
          clear hVy38 hU
          go_upto_region 20 with (first
              | (with_reducible refine arm_load (by with_unfolding_all exact rfl) kAB Try.underlying29 (by with_unfolding_all exact rfl) s_AB ?_)
              | (with_reducible refine arm_load_g (by with_unfolding_all exact rfl) (by with_unfolding_all exact rfl) kAB Try.underlying29 (by with_unfolding_all exact rfl) s_AB ?_)
              | (with_reducible refine arm_load (by with_unfolding_all exact rfl) kA Try.underlying29 (by with_unfolding_all exact rfl) s_A ?_)
              | (with_reducible refine arm_load_g (by with_unfolding_all exact rfl) (by with_unfolding_all exact rfl) kA Try.underlying29 (by with_unfolding_all exact rfl) s_A ?_)
              | (with_reducible refine arm_load (by with_unfolding_all exact rfl) kB Try.underlying29 (by with_unfolding_all exact rfl) s_B ?_)
              | (with_reducible refine arm_load_g (by with_unfolding_all exact rfl) (by with_unfolding_all exact rfl) kB Try.underlying29 (by with_unfolding_all exact rfl) s_B ?_)
              | (with_reducible refine arm_load (by with_unfolding_all exact rfl) kC Try.underlying29 (by with_unfolding_all exact rfl) s_C ?_)
              | (with_reducible refine arm_load_g (by with_unfolding_all exact rfl) (by with_unfolding_all exact rfl) kC Try.underlying29 (by with_unfolding_all exact rfl) s_C ?_)
              )
          go_simp
          go_wp2_with (fail)
          with_reducible refine (HKN.out _).mono ?_
          rintro e wz ⟨rfl, hU⟩
          go_wp2_with (fail)
          go_ret
          exact ⟨rfl, hVy39.trans hU⟩
        | true =>
          have hlast := HI3.out (by simp) (by simp)
          subst hlast
          go_upto_region 18 with (first
              | (with_reducible refine arm_load (by with_unfolding_all exact rfl) kAB Try.underlying29 (by with_unfolding_all exact rfl) s_AB ?_)
              | (with_reducible refine arm_load_g (by with_unfolding_all exact rfl) (by with_unfolding_all exact rfl) kAB Try.underlying29 (by with_unfolding_all exact rfl) s_AB ?_)
              | (with_reducible refine arm_load (by with_unfolding_all exact rfl) kA Try.underlying29 (by with_unfolding_all exact rfl) s_A ?_)
              | (with_reducible refine arm_load_g (by with_unfolding_all exact rfl) (by with_unfolding_all exact rfl) kA Try.underlying29 (by with_unfolding_all exact rfl) s_A ?_)
              | (with_reducible refine arm_load (by with_unfolding_all exact rfl) kB Try.underlying29 (by with_unfolding_all exact rfl) s_B ?_)
              | (with_reducible refine arm_load_g (by with_unfolding_all exact rfl) (by with_unfolding_all exact rfl) kB Try.underlying29 (by with_unfolding_all exact rfl) s_B ?_)
              | (with_reducible refine arm_load (by with_unfolding_all exact rfl) kC Try.underlying29 (by with_unfolding_all exact rfl) s_C ?_)
              | (with_reducible refine arm_load_g (by with_unfolding_all exact rfl) (by with_unfolding_all exact rfl) kC Try.underlying29 (by with_unfolding_all exact rfl) s_C ?_)
              )
          go_simp
          go_wp2_with (first
              | (with_reducible refine arm_load (by with_unfolding_all exact rfl) kAB Try.underlying29 (by with_unfolding_all exact rfl) s_AB ?_)
              | (with_reducible refine arm_load_g (by with_unfolding_all exact rfl) (by with_unfolding_all exact rfl) kAB Try.underlying29 (by with_unfolding_all exact rfl) s_AB ?_)
              | (with_reducible refine arm_load (by with_unfolding_all exact rfl) kA Try.underlying29 (by with_unfolding_all exact rfl) s_A ?_)
              | (with_reducible refine arm_load_g (by with_unfolding_all exact rfl) (by with_unfolding_all exact rfl) kA Try.underlying29 (by with_unfolding_all exact rfl) s_A ?_)
              | (with_reducible refine arm_load (by with_unfolding_all exact rfl) kB Try.underlying29 (by with_unfolding_all exact rfl) s_B ?_)
              | (with_reducible refine arm_load_g (by with_unfolding_all exact rfl) (by with_unfolding_all exact rfl) kB Try.underlying29 (by with_unfolding_all exact rfl) s_B ?_)
              | (with_reducible refine arm_load (by with_unfolding_all exact rfl) kC Try.underlying29 (by with_unfolding_all exact rfl) s_C ?_)
              | (with_reducible refine arm_load_g (by with_unfolding_all exact rfl) (by with_unfolding_all exact rfl) kC Try.underlying29 (by with_unfolding_all exact rfl) s_C ?_)
              )
          with_reducible refine (HC7.out _).mono ?_
          rintro e y40 ⟨rfl, hU⟩
          have kA' := hU.heap kA (by simp)
          clear kA
          have kA := kA'
          clear kA'
          have kB' := hU.heap kB (by simp)
          clear kB
          have kB := kB'
          clear kB'
          have kC' := hU.heap kC (by simp)
          clear kC
          have kC := kC'
          clear kC'
          have kAB' := hU.heap kAB (by simp)
          clear kAB
          have kAB := kAB'
          clear kAB'
          have hVy40 := hVy37.trans hU
          clear hVy37 hU
          go_wp2_with (first
              | (with_reducible refine arm_load (by with_unfolding_all exact rfl) kAB Try.underlying29 (by with_unfolding_all exact rfl) s_AB ?_)
              | (with_reducible refine arm_load_g (by with_unfolding_all exact rfl) (by with_unfolding_all exact rfl) kAB Try.underlying29 (by with_unfolding_all exact rfl) s_AB ?_)
              | (with_reducible refine arm_load (by with_unfolding_all exact rfl) kA Try.underlying29 (by with_unfolding_all exact rfl) s_A ?_)
              | (with_reducible refine arm_load_g (by with_unfolding_all exact rfl) (by with_unfolding_all exact rfl) kA Try.underlying29 (by with_unfolding_all exact rfl) s_A ?_)
              | (with_reducible refine arm_load (by with_unfolding_all exact rfl) kB Try.underlying29 (by with_unfolding_all exact rfl) s_B ?_)
              | (with_reducible refine arm_load_g (by with_unfolding_all exact rfl) (by with_unfolding_all exact rfl) kB Try.underlying29 (by with_unfolding_all exact rfl) s_B ?_)
              | (with_reducible refine arm_load (by with_unfolding_all exact rfl) kC Try.underlying29 (by with_unfolding_all exact rfl) s_C ?_)
              | (with_reducible refine arm_load_g (by with_unfolding_all exact rfl) (by with_unfolding_all exact rfl) kC Try.underlying29 (by with_unfolding_all exact rfl) s_C ?_)
              )
          with_reducible refine (HC9.out _).mono ?_
          rintro e y41 ⟨rfl, hU⟩
          have kA' := hU.heap kA (by simp)
          clear kA
          have kA := kA'
          clear kA'
          have kB' := hU.heap kB (by simp)
          clear kB
          have kB := kB'
          clear kB'
          have kC' := hU.heap kC (by simp)
          clear kC
          have kC := kC'
          clear kC'
          have kAB' := hU.heap kAB (by simp)
          clear kAB
          have kAB := kAB'
          clear kAB'
          have hVy41 := hVy40.trans hU
          clear hVy40 hU
          go_wp2_with (first
              | (with_reducible refine arm_load (by with_unfolding_all exact rfl) kAB Try.underlying29 (by with_unfolding_all exact rfl) s_AB ?_)
              | (with_reducible refine arm_load_g (by with_unfolding_all exact rfl) (by with_unfolding_all exact rfl) kAB Try.underlying29 (by with_unfolding_all exact rfl) s_AB ?_)
              | (with_reducible refine arm_load (by with_unfolding_all exact rfl) kA Try.underlying29 (by with_unfolding_all exact rfl) s_A ?_)
              | (with_reducible refine arm_load_g (by with_unfolding_all exact rfl) (by with_unfolding_all exact rfl) kA Try.underlying29 (by with_unfolding_all exact rfl) s_A ?_)
              | (with_reducible refine arm_load (by with_unfolding_all exact rfl) kB Try.underlying29 (by with_unfolding_all exact rfl) s_B ?_)
              | (with_reducible refine arm_load_g (by with_unfolding_all exact rfl) (by with_unfolding_all exact rfl) kB Try.underlying29 (by with_unfolding_all exact rfl) s_B ?_)
              | (with_reducible refine arm_load (by with_unfolding_all exact rfl) kC Try.underlying29 (by with_unfolding_all exact rfl) s_C ?_)
              | (with_reducible refine arm_load_g (by with_unfolding_all exact rfl) (by with_unfolding_all exact rfl) kC Try.underlying29 (by with_unfolding_all exact rfl) s_C ?_)
              )
          with_reducible refine (HC0.out _).mono ?_
          rintro e y42 ⟨rfl, hU⟩
          have kA' := hU.heap kA (by simp)
          clear kA
          have kA := kA'
          clear kA'
          have kB' := hU.heap kB (by simp)
          clear kB
          have kB := kB'
          clear kB'
          have kC' := hU.heap kC (by simp)
          clear kC
          have kC := kC'
          clear kC'
          have kAB' := hU.heap kAB (by simp)
          clear kAB
          have kAB := kAB'
          clear kAB'
          have hVy42 := hVy41.trans hU
          clear hVy41 hU
          go_upto_region 20 with (first
              | (with_reducible refine arm_load (by with_unfolding_all exact rfl) kAB Try.underlying29 (by with_unfolding_all exact rfl) s_AB ?_)
              | (with_reducible refine arm_load_g (by with_unfolding_all exact rfl) (by with_unfolding_all exact rfl) kAB Try.underlying29 (by with_unfolding_all exact rfl) s_AB ?_)
              | (with_reducible refine arm_load (by with_unfolding_all exact rfl) kA Try.underlying29 (by with_unfolding_all exact rfl) s_A ?_)
              | (with_reducible refine arm_load_g (by with_unfolding_all exact rfl) (by with_unfolding_all exact rfl) kA Try.underlying29 (by with_unfolding_all exact rfl) s_A ?_)
              | (with_reducible refine arm_load (by with_unfolding_all exact rfl) kB Try.underlying29 (by with_unfolding_all exact rfl) s_B ?_)
              | (with_reducible refine arm_load_g (by with_unfolding_all exact rfl) (by with_unfolding_all exact rfl) kB Try.underlying29 (by with_unfolding_all exact rfl) s_B ?_)
              | (with_reducible refine arm_load (by with_unfolding_all exact rfl) kC Try.underlying29 (by with_unfolding_all exact rfl) s_C ?_)
              | (with_reducible refine arm_load_g (by with_unfolding_all exact rfl) (by with_unfolding_all exact rfl) kC Try.underlying29 (by with_unfolding_all exact rfl) s_C ?_)
              )
          go_simp
          go_wp2_with (fail)
          with_reducible refine (HKN.out _).mono ?_
          rintro e wz ⟨rfl, hU⟩
          go_wp2_with (fail)
          go_ret
          exact ⟨rfl, hVy42.trans hU⟩
  | true =>
    cases c5 with
    | false =>
      go_upto_region 14 with (first
          | (with_reducible refine arm_load (by with_unfolding_all exact rfl) kAB Try.underlying29 (by with_unfolding_all exact rfl) s_AB ?_)
          | (with_reducible refine arm_load_g (by with_unfolding_all exact rfl) (by with_unfolding_all exact rfl) kAB Try.underlying29 (by with_unfolding_all exact rfl) s_AB ?_)
          | (with_reducible refine arm_load (by with_unfolding_all exact rfl) kA Try.underlying29 (by with_unfolding_all exact rfl) s_A ?_)
          | (with_reducible refine arm_load_g (by with_unfolding_all exact rfl) (by with_unfolding_all exact rfl) kA Try.underlying29 (by with_unfolding_all exact rfl) s_A ?_)
          | (with_reducible refine arm_load (by with_unfolding_all exact rfl) kB Try.underlying29 (by with_unfolding_all exact rfl) s_B ?_)
          | (with_reducible refine arm_load_g (by with_unfolding_all exact rfl) (by with_unfolding_all exact rfl) kB Try.underlying29 (by with_unfolding_all exact rfl) s_B ?_)
          | (with_reducible refine arm_load (by with_unfolding_all exact rfl) kC Try.underlying29 (by with_unfolding_all exact rfl) s_C ?_)
          | (with_reducible refine arm_load_g (by with_unfolding_all exact rfl) (by with_unfolding_all exact rfl) kC Try.underlying29 (by with_unfolding_all exact rfl) s_C ?_)
          )
      go_simp
      go_wp2_with (first
          | (with_reducible refine arm_load (by with_unfolding_all exact rfl) kAB Try.underlying29 (by with_unfolding_all exact rfl) s_AB ?_)
          | (with_reducible refine arm_load_g (by with_unfolding_all exact rfl) (by with_unfolding_all exact rfl) kAB Try.underlying29 (by with_unfolding_all exact rfl) s_AB ?_)
          | (with_reducible refine arm_load (by with_unfolding_all exact rfl) kA Try.underlying29 (by with_unfolding_all exact rfl) s_A ?_)
          | (with_reducible refine arm_load_g (by with_unfolding_all exact rfl) (by with_unfolding_all exact rfl) kA Try.underlying29 (by with_unfolding_all exact rfl) s_A ?_)
          | (with_reducible refine arm_load (by with_unfolding_all exact rfl) kB Try.underlying29 (by with_unfolding_all exact rfl) s_B ?_)
          | (with_reducible refine arm_load_g (by with_unfolding_all exact rfl) (by with_unfolding_all exact rfl) kB Try.underlying29 (by with_unfolding_all exact rfl) s_B ?_)
          | (with_reducible refine arm_load (by with_unfolding_all exact rfl) kC Try.underlying29 (by with_unfolding_all exact rfl) s_C ?_)
          | (with_reducible refine arm_load_g (by with_unfolding_all exact rfl) (by with_unfolding_all exact rfl) kC Try.underlying29 (by with_unfolding_all exact rfl) s_C ?_)
          )
      with_reducible refine (HC4.out _).mono ?_
      rintro e y43 ⟨rfl, hU⟩
      have kA' := hU.heap kA (by simp)
      clear kA
      have kA := kA'
      clear kA'
      have kB' := hU.heap kB (by simp)
      clear kB
      have kB := kB'
      clear kB'
      have kC' := hU.heap kC (by simp)
      clear kC
      have kC := kC'
      clear kC'
      have kAB' := hU.heap kAB (by simp)
      clear kAB
      have kAB := kAB'
      clear kAB'
      have hVy43 := hVy25.trans hU
      clear hVy25 hU
      go_wp2_with (first
          | (with_reducible refine arm_load (by with_unfolding_all exact rfl) kAB Try.underlying29 (by with_unfolding_all exact rfl) s_AB ?_)
          | (with_reducible refine arm_load_g (by with_unfolding_all exact rfl) (by with_unfolding_all exact rfl) kAB Try.underlying29 (by with_unfolding_all exact rfl) s_AB ?_)
          | (with_reducible refine arm_load (by with_unfolding_all exact rfl) kA Try.underlying29 (by with_unfolding_all exact rfl) s_A ?_)
          | (with_reducible refine arm_load_g (by with_unfolding_all exact rfl) (by with_unfolding_all exact rfl) kA Try.underlying29 (by with_unfolding_all exact rfl) s_A ?_)
          | (with_reducible refine arm_load (by with_unfolding_all exact rfl) kB Try.underlying29 (by with_unfolding_all exact rfl) s_B ?_)
          | (with_reducible refine arm_load_g (by with_unfolding_all exact rfl) (by with_unfolding_all exact rfl) kB Try.underlying29 (by with_unfolding_all exact rfl) s_B ?_)
          | (with_reducible refine arm_load (by with_unfolding_all exact rfl) kC Try.underlying29 (by with_unfolding_all exact rfl) s_C ?_)
          | (with_reducible refine arm_load_g (by with_unfolding_all exact rfl) (by with_unfolding_all exact rfl) kC Try.underlying29 (by with_unfolding_all exact rfl) s_C ?_)
          )
      with_reducible refine (HC5.out _).mono ?_
      rintro e y44 ⟨rfl, hU⟩
      have kA' := hU.heap kA (by simp)
      clear kA
      have kA := kA'
      clear kA'
      have kB' := hU.heap kB (by simp)
      clear kB
      have kB := kB'
      clear kB'
      have kC' := hU.heap kC (by simp)
      clear kC
      have kC := kC'
      clear kC'
      have kAB' := hU.heap kAB (by simp)
      clear kAB
      have kAB := kAB'
      clear kAB'
      have hVy44 := hVy43.trans hU
      clear hVy43 hU
      cases c7 with
      | false =>
        go_upto_region 16 with (first
            | (with_reducible refine arm_load (by with_unfolding_all exact rfl) kAB Try.underlying29 (by with_unfolding_all exact rfl) s_AB ?_)
            | (with_reducible refine arm_load_g (by with_unfolding_all exact rfl) (by with_unfolding_all exact rfl) kAB Try.underlying29 (by with_unfolding_all exact rfl) s_AB ?_)
            | (with_reducible refine arm_load (by with_unfolding_all exact rfl) kA Try.underlying29 (by with_unfolding_all exact rfl) s_A ?_)
            | (with_reducible refine arm_load_g (by with_unfolding_all exact rfl) (by with_unfolding_all exact rfl) kA Try.underlying29 (by with_unfolding_all exact rfl) s_A ?_)
            | (with_reducible refine arm_load (by with_unfolding_all exact rfl) kB Try.underlying29 (by with_unfolding_all exact rfl) s_B ?_)
            | (with_reducible refine arm_load_g (by with_unfolding_all exact rfl) (by with_unfolding_all exact rfl) kB Try.underlying29 (by with_unfolding_all exact rfl) s_B ?_)
            | (with_reducible refine arm_load (by with_unfolding_all exact rfl) kC Try.underlying29 (by with_unfolding_all exact rfl) s_C ?_)
            | (with_reducible refine arm_load_g (by with_unfolding_all exact rfl) (by with_unfolding_all exact rfl) kC Try.underlying29 (by with_unfolding_all exact rfl) s_C ?_)
            )
        go_simp
        go_wp2_with (first
            | (with_reducible refine arm_load (by with_unfolding_all exact rfl) kAB Try.underlying29 (by with_unfolding_all exact rfl) s_AB ?_)
            | (with_reducible refine arm_load_g (by with_unfolding_all exact rfl) (by with_unfolding_all exact rfl) kAB Try.underlying29 (by with_unfolding_all exact rfl) s_AB ?_)
            | (with_reducible refine arm_load (by with_unfolding_all exact rfl) kA Try.underlying29 (by with_unfolding_all exact rfl) s_A ?_)
            | (with_reducible refine arm_load_g (by with_unfolding_all exact rfl) (by with_unfolding_all exact rfl) kA Try.underlying29 (by with_unfolding_all exact rfl) s_A ?_)
            | (with_reducible refine arm_load (by with_unfolding_all exact rfl) kB Try.underlying29 (by with_unfolding_all exact rfl) s_B ?_)
            | (with_reducible refine arm_load_g (by with_unfolding_all exact rfl) (by with_unfolding_all exact rfl) kB Try.underlying29 (by with_unfolding_all exact rfl) s_B ?_)
            | (with_reducible refine arm_load (by with_unfolding_all exact rfl) kC Try.underlying29 (by with_unfolding_all exact rfl) s_C ?_)
            | (with_reducible refine arm_load_g (by with_unfolding_all exact rfl) (by with_unfolding_all exact rfl) kC Try.underlying29 (by with_unfolding_all exact rfl) s_C ?_)
            )
        with_reducible refine (HC7.out _).mono ?_
        rintro e y45 ⟨rfl, hU⟩
        have kA' := hU.heap kA (by simp)
        clear kA
        have kA := kA'
        clear kA'
        have kB' := hU.heap kB (by simp)
        clear kB
        have kB := kB'
        clear kB'
        have kC' := hU.heap kC (by simp)
        clear kC
        have kC := kC'
        clear kC'
        have kAB' := hU.heap kAB (by simp)
        clear kAB
        have kAB := kAB'
        clear kAB'
        have hVy45 := hVy44.trans hU
        clear hVy44 hU
        go_upto_region 18 with (first
            | (with_reducible refine arm_load (by with_unfolding_all exact rfl) kAB Try.underlying29 (by with_unfolding_all exact rfl) s_AB ?_)
            | (with_reducible refine arm_load_g (by with_unfolding_all exact rfl) (by with_unfolding_all exact rfl) kAB Try.underlying29 (by with_unfolding_all exact rfl) s_AB ?_)
            | (with_reducible refine arm_load (by with_unfolding_all exact rfl) kA Try.underlying29 (by with_unfolding_all exact rfl) s_A ?_)
            | (with_reducible refine arm_load_g (by with_unfolding_all exact rfl) (by with_unfolding_all exact rfl) kA Try.underlying29 (by with_unfolding_all exact rfl) s_A ?_)
            | (with_reducible refine arm_load (by with_unfolding_all exact rfl) kB Try.underlying29 (by with_unfolding_all exact rfl) s_B ?_)
            | (with_reducible refine arm_load_g (by with_unfolding_all exact rfl) (by with_unfolding_all exact rfl) kB Try.underlying29 (by with_unfolding_all exact rfl) s_B ?_)
            | (with_reducible refine arm_load (by with_unfolding_all exact rfl) kC Try.underlying29 (by with_unfolding_all exact rfl) s_C ?_)
            | (with_reducible refine arm_load_g (by with_unfolding_all exact rfl) (by with_unfolding_all exact rfl) kC Try.underlying29 (by with_unfolding_all exact rfl) s_C ?_)
            )
        go_simp
        go_wp2_with (first
            | (with_reducible refine arm_load (by with_unfolding_all exact rfl) kAB Try.underlying29 (by with_unfolding_all exact rfl) s_AB ?_)
            | (with_reducible refine arm_load_g (by with_unfolding_all exact rfl) (by with_unfolding_all exact rfl) kAB Try.underlying29 (by with_unfolding_all exact rfl) s_AB ?_)
            | (with_reducible refine arm_load (by with_unfolding_all exact rfl) kA Try.underlying29 (by with_unfolding_all exact rfl) s_A ?_)
            | (with_reducible refine arm_load_g (by with_unfolding_all exact rfl) (by with_unfolding_all exact rfl) kA Try.underlying29 (by with_unfolding_all exact rfl) s_A ?_)
            | (with_reducible refine arm_load (by with_unfolding_all exact rfl) kB Try.underlying29 (by with_unfolding_all exact rfl) s_B ?_)
            | (with_reducible refine arm_load_g (by with_unfolding_all exact rfl) (by with_unfolding_all exact rfl) kB Try.underlying29 (by with_unfolding_all exact rfl) s_B ?_)
            | (with_reducible refine arm_load (by with_unfolding_all exact rfl) kC Try.underlying29 (by with_unfolding_all exact rfl) s_C ?_)
            | (with_reducible refine arm_load_g (by with_unfolding_all exact rfl) (by with_unfolding_all exact rfl) kC Try.underlying29 (by with_unfolding_all exact rfl) s_C ?_)
            )
        with_reducible refine (HC7.out _).mono ?_
        rintro e y46 ⟨rfl, hU⟩
        have kA' := hU.heap kA (by simp)
        clear kA
        have kA := kA'
        clear kA'
        have kB' := hU.heap kB (by simp)
        clear kB
        have kB := kB'
        clear kB'
        have kC' := hU.heap kC (by simp)
        clear kC
        have kC := kC'
        clear kC'
        have kAB' := hU.heap kAB (by simp)
        clear kAB
        have kAB := kAB'
        clear kAB'
        have hVy46 := hVy45.trans hU
        clear hVy45 hU
        go_upto_region 20 with (first
            | (with_reducible refine arm_load (by with_unfolding_all exact rfl) kAB Try.underlying29 (by with_unfolding_all exact rfl) s_AB ?_)
            | (with_reducible refine arm_load_g (by with_unfolding_all exact rfl) (by with_unfolding_all exact rfl) kAB Try.underlying29 (by with_unfolding_all exact rfl) s_AB ?_)
            | (with_reducible refine arm_load (by with_unfolding_all exact rfl) kA Try.underlying29 (by with_unfolding_all exact rfl) s_A ?_)
            | (with_reducible refine arm_load_g (by with_unfolding_all exact rfl) (by with_unfolding_all exact rfl) kA Try.underlying29 (by with_unfolding_all exact rfl) s_A ?_)
            | (with_reducible refine arm_load (by with_unfolding_all exact rfl) kB Try.underlying29 (by with_unfolding_all exact rfl) s_B ?_)
            | (with_reducible refine arm_load_g (by with_unfolding_all exact rfl) (by with_unfolding_all exact rfl) kB Try.underlying29 (by with_unfolding_all exact rfl) s_B ?_)
            | (with_reducible refine arm_load (by with_unfolding_all exact rfl) kC Try.underlying29 (by with_unfolding_all exact rfl) s_C ?_)
            | (with_reducible refine arm_load_g (by with_unfolding_all exact rfl) (by with_unfolding_all exact rfl) kC Try.underlying29 (by with_unfolding_all exact rfl) s_C ?_)
            )
        go_simp
        go_wp2_with (fail)
        with_reducible refine (HKN.out _).mono ?_
        rintro e wz ⟨rfl, hU⟩
        go_wp2_with (fail)
        go_ret
        exact ⟨rfl, hVy46.trans hU⟩
      | true =>
        cases c8 with
        | false =>
          go_upto_region 16 with (first
              | (with_reducible refine arm_load (by with_unfolding_all exact rfl) kAB Try.underlying29 (by with_unfolding_all exact rfl) s_AB ?_)
              | (with_reducible refine arm_load_g (by with_unfolding_all exact rfl) (by with_unfolding_all exact rfl) kAB Try.underlying29 (by with_unfolding_all exact rfl) s_AB ?_)
              | (with_reducible refine arm_load (by with_unfolding_all exact rfl) kA Try.underlying29 (by with_unfolding_all exact rfl) s_A ?_)
              | (with_reducible refine arm_load_g (by with_unfolding_all exact rfl) (by with_unfolding_all exact rfl) kA Try.underlying29 (by with_unfolding_all exact rfl) s_A ?_)
              | (with_reducible refine arm_load (by with_unfolding_all exact rfl) kB Try.underlying29 (by with_unfolding_all exact rfl) s_B ?_)
              | (with_reducible refine arm_load_g (by with_unfolding_all exact rfl) (by with_unfolding_all exact rfl) kB Try.underlying29 (by with_unfolding_all exact rfl) s_B ?_)
              | (with_reducible refine arm_load (by with_unfolding_all exact rfl) kC Try.underlying29 (by with_unfolding_all exact rfl) s_C ?_)
              | (with_reducible refine arm_load_g (by with_unfolding_all exact rfl) (by with_unfolding_all exact rfl) kC Try.underlying29 (by with_unfolding_all exact rfl) s_C ?_)
              )
          go_simp
          go_wp2_with (first
              | (with_reducible refine arm_load (by with_unfolding_all exact rfl) kAB Try.underlying29 (by with_unfolding_all exact rfl) s_AB ?_)
              | (with_reducible refine arm_load_g (by with_unfolding_all exact rfl) (by with_unfolding_all exact rfl) kAB Try.underlying29 (by with_unfolding_all exact rfl) s_AB ?_)
              | (with_reducible refine arm_load (by with_unfolding_all exact rfl) kA Try.underlying29 (by with_unfolding_all exact rfl) s_A ?_)
              | (with_reducible refine arm_load_g (by with_unfolding_all exact rfl) (by with_unfolding_all exact rfl) kA Try.underlying29 (by with_unfolding_all exact rfl) s_A ?_)
              | (with_reducible refine arm_load (by with_unfolding_all exact rfl) kB Try.underlying29 (by with_unfolding_all exact rfl) s_B ?_)
              | (with_reducible refine arm_load_g (by with_unfolding_all exact rfl) (by with_unfolding_all exact rfl) kB Try.underlying29 (by with_unfolding_all exact rfl) s_B ?_)
              | (with_reducible refine arm_load (by with_unfolding_all exact rfl) kC Try.underlying29 (by with_unfolding_all exact rfl) s_C ?_)
              | (with_reducible refine arm_load_g (by with_unfolding_all exact rfl) (by with_unfolding_all exact rfl) kC Try.underlying29 (by with_unfolding_all exact rfl) s_C ?_)
              )
          with_reducible refine (HC7.out _).mono ?_
          rintro e y47 ⟨rfl, hU⟩
          have kA' := hU.heap kA (by simp)
          clear kA
          have kA := kA'
          clear kA'
          have kB' := hU.heap kB (by simp)
          clear kB
          have kB := kB'
          clear kB'
          have kC' := hU.heap kC (by simp)
          clear kC
          have kC := kC'
          clear kC'
          have kAB' := hU.heap kAB (by simp)
          clear kAB
          have kAB := kAB'
          clear kAB'
          have hVy47 := hVy44.trans hU
          clear hVy44 hU
          go_wp2_with (first
              | (with_reducible refine arm_load (by with_unfolding_all exact rfl) kAB Try.underlying29 (by with_unfolding_all exact rfl) s_AB ?_)
              | (with_reducible refine arm_load_g (by with_unfolding_all exact rfl) (by with_unfolding_all exact rfl) kAB Try.underlying29 (by with_unfolding_all exact rfl) s_AB ?_)
              | (with_reducible refine arm_load (by with_unfolding_all exact rfl) kA Try.underlying29 (by with_unfolding_all exact rfl) s_A ?_)
              | (with_reducible refine arm_load_g (by with_unfolding_all exact rfl) (by with_unfolding_all exact rfl) kA Try.underlying29 (by with_unfolding_all exact rfl) s_A ?_)
              | (with_reducible refine arm_load (by with_unfolding_all exact rfl) kB Try.underlying29 (by with_unfolding_all exact rfl) s_B ?_)
              | (with_reducible refine arm_load_g (by with_unfolding_all exact rfl) (by with_unfolding_all exact rfl) kB Try.underlying29 (by with_unfolding_all exact rfl) s_B ?_)
              | (with_reducible refine arm_load (by with_unfolding_all exact rfl) kC Try.underlying29 (by with_unfolding_all exact rfl) s_C ?_)
              | (with_reducible refine arm_load_g (by with_unfolding_all exact rfl) (by with_unfolding_all exact rfl) kC Try.underlying29 (by with_unfolding_all exact rfl) s_C ?_)
              )
          with_reducible refine (HC8.out _).mono ?_
          rintro e y48 ⟨rfl, hU⟩
          have kA' := hU.heap kA (by simp)
          clear kA
          have kA := kA'
          clear kA'
          have kB' := hU.heap kB (by simp)
          clear kB
          have kB := kB'
          clear kB'
          have kC' := hU.heap kC (by simp)
          clear kC
          have kC := kC'
          clear kC'
          have kAB' := hU.heap kAB (by simp)
          clear kAB
          have kAB := kAB'
          clear kAB'
          have hVy48 := hVy47.trans hU
          clear hVy47 hU
          cases c9 with
          | false =>
            go_upto_region 18 with (first
                | (with_reducible refine arm_load (by with_unfolding_all exact rfl) kAB Try.underlying29 (by with_unfolding_all exact rfl) s_AB ?_)
                | (with_reducible refine arm_load_g (by with_unfolding_all exact rfl) (by with_unfolding_all exact rfl) kAB Try.underlying29 (by with_unfolding_all exact rfl) s_AB ?_)
                | (with_reducible refine arm_load (by with_unfolding_all exact rfl) kA Try.underlying29 (by with_unfolding_all exact rfl) s_A ?_)
                | (with_reducible refine arm_load_g (by with_unfolding_all exact rfl) (by with_unfolding_all exact rfl) kA Try.underlying29 (by with_unfolding_all exact rfl) s_A ?_)
                | (with_reducible refine arm_load (by with_unfolding_all exact rfl) kB Try.underlying29 (by with_unfolding_all exact rfl) s_B ?_)
                | (with_reducible refine arm_load_g (by with_unfolding_all exact rfl) (by with_unfolding_all exact rfl) kB Try.underlying29 (by with_unfolding_all exact rfl) s_B ?_)
                | (with_reducible refine arm_load (by with_unfolding_all exact rfl) kC Try.underlying29 (by with_unfolding_all exact rfl) s_C ?_)
                | (with_reducible refine arm_load_g (by with_unfolding_all exact rfl) (by with_unfolding_all exact rfl) kC Try.underlying29 (by with_unfolding_all exact rfl) s_C ?_)
                )
            go_simp
            go_wp2_with (first
                | (with_reducible refine arm_load (by with_unfolding_all exact rfl) kAB Try.underlying29 (by with_unfolding_all exact rfl) s_AB ?_)
                | (with_reducible refine arm_load_g (by with_unfolding_all exact rfl) (by with_unfolding_all exact rfl) kAB Try.underlying29 (by with_unfolding_all exact rfl) s_AB ?_)
                | (with_reducible refine arm_load (by with_unfolding_all exact rfl) kA Try.underlying29 (by with_unfolding_all exact rfl) s_A ?_)
                | (with_reducible refine arm_load_g (by with_unfolding_all exact rfl) (by with_unfolding_all exact rfl) kA Try.underlying29 (by with_unfolding_all exact rfl) s_A ?_)
                | (with_reducible refine arm_load (by with_unfolding_all exact rfl) kB Try.underlying29 (by with_unfolding_all exact rfl) s_B ?_)
                | (with_reducible refine arm_load_g (by with_unfolding_all exact rfl) (by with_unfolding_all exact rfl) kB Try.underlying29 (by with_unfolding_all exact rfl) s_B ?_)
                | (with_reducible refine arm_load (by with_unfolding_all exact rfl) kC Try.underlying29 (by with_unfolding_all exact rfl) s_C ?_)
                | (with_reducible refine arm_load_g (by with_unfolding_all exact rfl) (by with_unfolding_all exact rfl) kC Try.underlying29 (by with_unfolding_all exact rfl) s_C ?_)
                )
            with_reducible refine (HC7.out _).mono ?_
            rintro e y49 ⟨rfl, hU⟩
            have kA' := hU.heap kA (by simp)
            clear kA
            have kA := kA'
            clear kA'
            have kB' := hU.heap kB (by simp)
            clear kB
            have kB := kB'
            clear kB'
            have kC' := hU.heap kC (by simp)
            clear kC
            have kC := kC'
            clear kC'
            have kAB' := hU.heap kAB (by simp)
            clear kAB
            have kAB := kAB'
            clear kAB'
            have hVy49 := hVy48.trans hU
            clear hVy48 hU
            go_wp2_with (first
                | (with_reducible refine arm_load (by with_unfolding_all exact rfl) kAB Try.underlying29 (by with_unfolding_all exact rfl) s_AB ?_)
                | (with_reducible refine arm_load_g (by with_unfolding_all exact rfl) (by with_unfolding_all exact rfl) kAB Try.underlying29 (by with_unfolding_all exact rfl) s_AB ?_)
                | (with_reducible refine arm_load (by with_unfolding_all exact rfl) kA Try.underlying29 (by with_unfolding_all exact rfl) s_A ?_)
                | (with_reducible refine arm_load_g (by with_unfolding_all exact rfl) (by with_unfolding_all exact rfl) kA Try.underlying29 (by with_unfolding_all exact rfl) s_A ?_)
                | (with_reducible refine arm_load (by with_unfolding_all exact rfl) kB Try.underlying29 (by with_unfolding_all exact rfl) s_B ?_)
                | (with_reducible refine arm_load_g (by with_unfolding_all exact rfl) (by with_unfolding_all exact rfl) kB Try.underlying29 (by with_unfolding_all exact rfl) s_B ?_)
                | (with_reducible refine arm_load (by with_unfolding_all exact rfl) kC Try.underlying29 (by with_unfolding_all exact rfl) s_C ?_)
                | (with_reducible refine arm_load_g (by with_unfolding_all exact rfl) (by with_unfolding_all exact rfl) kC Try.underlying29 (by with_unfolding_all exact rfl) s_C ?_)
                )
            with_reducible refine (HC9.out _).mono ?_
            rintro e y50 ⟨rfl, hU⟩
            have kA' := hU.heap kA (by simp)
            clear kA
            have kA := kA'
            clear kA'
            have kB' := hU.heap kB (by simp)
            clear kB
            have kB := kB'
            clear kB'
            have kC' := hU.heap kC (by simp)
            clear kC
            have kC := kC'
            clear kC'
            have kAB' := hU.heap kAB (by simp)
            clear kAB
            have kAB := kAB'
            clear kAB'
            have hVy50 := hVy49.trans hU
            clear hVy49 hU
            go_upto_region 20 with (first
                | (with_reducible refine arm_load (by with_unfolding_all exact rfl) kAB Try.underlying29 (by with_unfolding_all exact rfl) s_AB ?_)
                | (with_reducible refine arm_load_g (by with_unfolding_all exact rfl) (by with_unfolding_all exact rfl) kAB Try.underlying29 (by with_unfolding_all exact rfl) s_AB ?_)
                | (with_reducible refine arm_load (by with_unfolding_all exact rfl) kA Try.underlying29 (by with_unfolding_all exact rfl) s_A ?_)
                | (with_reducible refine arm_load_g (by with_unfolding_all exact rfl) (by with_unfolding_all exact rfl) kA Try.underlying29 (by with_unfolding_all exact rfl) s_A ?_)
                | (with_reducible refine arm_load (by with_unfolding_all exact rfl) kB Try.underlying29 (by with_unfolding_all exact rfl) s_B ?_)
                | (with_reducible refine arm_load_g (by with_unfolding_all exact rfl) (by with_unfolding_all exact rfl) kB Try.underlying29 (by with_unfolding_all exact rfl) s_B ?_)
                | (with_reducible refine arm_load (by with_unfolding_all exact rfl) kC Try.underlying29 (by with_unfolding_all exact rfl) s_C ?_)
                | (with_reducible refine arm_load_g (by with_unfolding_all exact rfl) (by with_unfolding_all exact rfl) kC Try.underlying29 (by with_unfolding_all exact rfl) s_C ?_)
                )
            go_simp
            go_wp2_with (fail)
            with_reducible refine (HKN.out _).mono ?_
            rintro e wz ⟨rfl, hU⟩
            go_wp2_with (fail)
            go_ret
            exact ⟨rfl, hVy50.trans hU⟩
          | true =>
            have hlast := HI3.out (by simp) (by simp)
            subst hlast
            go_upto_region 18 with (first
                | (with_reducible refine arm_load (by with_unfolding_all exact rfl) kAB Try.underlying29 (by with_unfolding_all exact rfl) s_AB ?_)
                | (with_reducible refine arm_load_g (by with_unfolding_all exact rfl) (by with_unfolding_all exact rfl) kAB Try.underlying29 (by with_unfolding_all exact rfl) s_AB ?_)
                | (with_reducible refine arm_load (by with_unfolding_all exact rfl) kA Try.underlying29 (by with_unfolding_all exact rfl) s_A ?_)
                | (with_reducible refine arm_load_g (by with_unfolding_all exact rfl) (by with_unfolding_all exact rfl) kA Try.underlying29 (by with_unfolding_all exact rfl) s_A ?_)
                | (with_reducible refine arm_load (by with_unfolding_all exact rfl) kB Try.underlying29 (by with_unfolding_all exact rfl) s_B ?_)
                | (with_reducible refine arm_load_g (by with_unfolding_all exact rfl) (by with_unfolding_all exact rfl) kB Try.underlying29 (by with_unfolding_all exact rfl) s_B ?_)
                | (with_reducible refine arm_load (by with_unfolding_all exact rfl) kC Try.underlying29 (by with_unfolding_all exact rfl) s_C ?_)
                | (with_reducible refine arm_load_g (by with_unfolding_all exact rfl) (by with_unfolding_all exact rfl) kC Try.underlying29 (by with_unfolding_all exact rfl) s_C ?_)
                )
            go_simp
            go_wp2_with (first
                | (with_reducible refine arm_load (by with_unfolding_all exact rfl) kAB Try.underlying29 (by with_unfolding_all exact rfl) s_AB ?_)
                | (with_reducible refine arm_load_g (by with_unfolding_all exact rfl) (by with_unfolding_all exact rfl) kAB Try.underlying29 (by with_unfolding_all exact rfl) s_AB ?_)
                | (with_reducible refine arm_load (by with_unfolding_all exact rfl) kA Try.underlying29 (by with_unfolding_all exact rfl) s_A ?_)
                | (with_reducible refine arm_load_g (by with_unfolding_all exact rfl) (by with_unfolding_all exact rfl) kA Try.underlying29 (by with_unfolding_all exact rfl) s_A ?_)
                | (with_reducible refine arm_load (by with_unfolding_all exact rfl) kB Try.underlying29 (by with_unfolding_all exact rfl) s_B ?_)
                | (with_reducible refine arm_load_g (by with_unfolding_all exact rfl) (by with_unfolding_all exact rfl) kB Try.underlying29 (by with_unfolding_all exact rfl) s_B ?_)
                | (with_reducible refine arm_load (by with_unfolding_all exact rfl) kC Try.underlying29 (by with_unfolding_all exact rfl) s_C ?_)
                | (with_reducible refine arm_load_g (by with_unfolding_all exact rfl) (by with_unfolding_all exact rfl) kC Try.underlying29 (by with_unfolding_all exact rfl) s_C ?_)
                )
            with_reducible refine (HC7.out _).mono ?_
            rintro e y51 ⟨rfl, hU⟩
            have kA' := hU.heap kA (by simp)
            clear kA
            have kA := kA'
            clear kA'
            have kB' := hU.heap kB (by simp)
            clear kB
            have kB := kB'
            clear kB'
            have kC' := hU.heap kC (by simp)
            clear kC
            have kC := kC'
            clear kC'
            have kAB' := hU.heap kAB (by simp)
            clear kAB
            have kAB := kAB'
            clear kAB'
            have hVy51 := hVy48.trans hU
            clear hVy48 hU
            go_wp2_with (first
                | (with_reducible refine arm_load (by with_unfolding_all exact rfl) kAB Try.underlying29 (by with_unfolding_all exact rfl) s_AB ?_)
                | (with_reducible refine arm_load_g (by with_unfolding_all exact rfl) (by with_unfolding_all exact rfl) kAB Try.underlying29 (by with_unfolding_all exact rfl) s_AB ?_)
                | (with_reducible refine arm_load (by with_unfolding_all exact rfl) kA Try.underlying29 (by with_unfolding_all exact rfl) s_A ?_)
                | (with_reducible refine arm_load_g (by with_unfolding_all exact rfl) (by with_unfolding_all exact rfl) kA Try.underlying29 (by with_unfolding_all exact rfl) s_A ?_)
                | (with_reducible refine arm_load (by with_unfolding_all exact rfl) kB Try.underlying29 (by with_unfolding_all exact rfl) s_B ?_)
                | (with_reducible refine arm_load_g (by with_unfolding_all exact rfl) (by with_unfolding_all exact rfl) kB Try.underlying29 (by with_unfolding_all exact rfl) s_B ?_)
                | (with_reducible refine arm_load (by with_unfolding_all exact rfl) kC Try.underlying29 (by with_unfolding_all exact rfl) s_C ?_)
                | (with_reducible refine arm_load_g (by with_unfolding_all exact rfl) (by with_unfolding_all exact rfl) kC Try.underlying29 (by with_unfolding_all exact rfl) s_C ?_)
                )
            with_reducible refine (HC9.out _).mono ?_
            rintro e y52 ⟨rfl, hU⟩
            have kA' := hU.heap kA (by simp)
            clear kA
            have kA := kA'
            clear kA'
            have kB' := hU.heap kB (by simp)
            clear kB
            have kB := kB'
            clear kB'
            have kC' := hU.heap kC (by simp)
            clear kC
            have kC := kC'
            clear kC'
            have kAB' := hU.heap kAB (by simp)
            clear kAB
            have kAB := kAB'
            clear kAB'
            have hVy52 := hVy51.trans hU
            clear hVy51 hU
            go_wp2_with (first
                | (with_reducible refine arm_load (by with_unfolding_all exact rfl) kAB Try.underlying29 (by with_unfolding_all exact rfl) s_AB ?_)
                | (with_reducible refine arm_load_g (by with_unfolding_all exact rfl) (by with_unfolding_all exact rfl) kAB Try.underlying29 (by with_unfolding_all exact rfl) s_AB ?_)
                | (with_reducible refine arm_load (by with_unfolding_all exact rfl) kA Try.underlying29 (by with_unfolding_all exact rfl) s_A ?_)
                | (with_reducible refine arm_load_g (by with_unfolding_all exact rfl) (by with_unfolding_all exact rfl) kA Try.underlying29 (by with_unfolding_all exact rfl) s_A ?_)
                | (with_reducible refine arm_load (by with_unfolding_all exact rfl) kB Try.underlying29 (by with_unfolding_all exact rfl) s_B ?_)
                | (with_reducible refine arm_load_g (by with_unfolding_all exact rfl) (by with_unfolding_all exact rfl) kB Try.underlying29 (by with_unfolding_all exact rfl) s_B ?_)
                | (with_reducible refine arm_load (by with_unfolding_all exact rfl) kC Try.underlying29 (by with_unfolding_all exact rfl) s_C ?_)
                | (with_reducible refine arm_load_g (by with_unfolding_all exact rfl) (by with_unfolding_all exact rfl) kC Try.underlying29 (by with_unfolding_all exact rfl) s_C ?_)
                )
            with_reducible refine (HC0.out _).mono ?_
            rintro e y53 ⟨rfl, hU⟩
            have kA' := hU.heap kA (by simp)
            clear kA
            have kA := kA'
            clear kA'
            have kB' := hU.heap kB (by simp)
            clear kB
            have kB := kB'
            clear kB'
            have kC' := hU.heap kC (by simp)
            clear kC
            have kC := kC'
            clear kC'
            have kAB' := hU.heap kAB (by simp)
            clear kAB
            have kAB := kAB'
            clear kAB'
            have hVy53 := hVy52.trans hU
            clear hVy52 hU
            go_upto_region 20 with (first
                | (with_reducible refine arm_load (by with_unfolding_all exact rfl) kAB Try.underlying29 (by with_unfolding_all exact rfl) s_AB ?_)
                | (with_reducible refine arm_load_g (by with_unfolding_all exact rfl) (by with_unfolding_all exact rfl) kAB Try.underlying29 (by with_unfolding_all exact rfl) s_AB ?_)
                | (with_reducible refine arm_load (by with_unfolding_all exact rfl) kA Try.underlying29 (by with_unfolding_all exact rfl) s_A ?_)
                | (with_reducible refine arm_load_g (by with_unfolding_all exact rfl) (by with_unfolding_all exact rfl) kA Try.underlying29 (by with_unfolding_all exact rfl) s_A ?_)
                | (with_reducible refine arm_load (by with_unfolding_all exact rfl) kB Try.underlying29 (by with_unfolding_all exact rfl) s_B ?_)
                | (with_reducible refine arm_load_g (by with_unfolding_all exact rfl) (by with_unfolding_all exact rfl) kB Try.underlying29 (by with_unfolding_all exact rfl) s_B ?_)
                | (with_reducible refine arm_load (by with_unfolding_all exact rfl) kC Try.underlying29 (by with_unfolding_all exact rfl) s_C ?_)
                | (with_reducible refine arm_load_g (by with_unfolding_all exact rfl) (by with_unfolding_all exact rfl) kC Try.underlying29 (by with_unfolding_all exact rfl) s_C ?_)
                )
            go_simp
            go_wp2_with (fail)
            with_reducible refine (HKN.out _).mono ?_
            rintro e wz ⟨rfl, hU⟩
            go_wp2_with (fail)
            go_ret
            exact ⟨rfl, hVy53.trans hU⟩
        | true =>
          have hlast := HI2.out (by simp) (by simp)
          subst hlast
          simp only [Bool.not_true] at hqN
          go_upto_region 16 with (first
              | (with_reducible refine arm_load (by with_unfolding_all exact rfl) kAB Try.underlying29 (by with_unfolding_all exact rfl) s_AB ?_)
              | (with_reducible refine arm_load_g (by with_unfolding_all exact rfl) (by with_unfolding_all exact rfl) kAB Try.underlying29 (by with_unfolding_all exact rfl) s_AB ?_)
              | (with_reducible refine arm_load (by with_unfolding_all exact rfl) kA Try.underlying29 (by with_unfolding_all exact rfl) s_A ?_)
              | (with_reducible refine arm_load_g (by with_unfolding_all exact rfl) (by with_unfolding_all exact rfl) kA Try.underlying29 (by with_unfolding_all exact rfl) s_A ?_)
              | (with_reducible refine arm_load (by with_unfolding_all exact rfl) kB Try.underlying29 (by with_unfolding_all exact rfl) s_B ?_)
              | (with_reducible refine arm_load_g (by with_unfolding_all exact rfl) (by with_unfolding_all exact rfl) kB Try.underlying29 (by with_unfolding_all exact rfl) s_B ?_)
              | (with_reducible refine arm_load (by with_unfolding_all exact rfl) kC Try.underlying29 (by with_unfolding_all exact rfl) s_C ?_)
              | (with_reducible refine arm_load_g (by with_unfolding_all exact rfl) (by with_unfolding_all exact rfl) kC Try.underlying29 (by with_unfolding_all exact rfl) s_C ?_)
              )
          go_simp
          go_wp2_with (first
              | (with_reducible refine arm_load (by with_unfolding_all exact rfl) kAB Try.underlying29 (by with_unfolding_all exact rfl) s_AB ?_)
              | (with_reducible refine arm_load_g (by with_unfolding_all exact rfl) (by with_unfolding_all exact rfl) kAB Try.underlying29 (by with_unfolding_all exact rfl) s_AB ?_)
              | (with_reducible refine arm_load (by with_unfolding_all exact rfl) kA Try.underlying29 (by with_unfolding_all exact rfl) s_A ?_)
              | (with_reducible refine arm_load_g (by with_unfolding_all exact rfl) (by with_unfolding_all exact rfl) kA Try.underlying29 (by with_unfolding_all exact rfl) s_A ?_)
              | (with_reducible refine arm_load (by with_unfolding_all exact rfl) kB Try.underlying29 (by with_unfolding_all exact rfl) s_B ?_)
              | (with_reducible refine arm_load_g (by with_unfolding_all exact rfl) (by with_unfolding_all exact rfl) kB Try.underlying29 (by with_unfolding_all exact rfl) s_B ?_)
              | (with_reducible refine arm_load (by with_unfolding_all exact rfl) kC Try.underlying29 (by with_unfolding_all exact rfl) s_C ?_)
              | (with_reducible refine arm_load_g (by with_unfolding_all exact rfl) (by with_unfolding_all exact rfl) kC Try.underlying29 (by with_unfolding_all exact rfl) s_C ?_)
              )
          with_reducible refine (HC7.out _).mono ?_
          rintro e y54 ⟨rfl, hU⟩
          have kA' := hU.heap kA (by simp)
          clear kA
          have kA := kA'
          clear kA'
          have kB' := hU.heap kB (by simp)
          clear kB
          have kB := kB'
          clear kB'
          have kC' := hU.heap kC (by simp)
          clear kC
          have kC := kC'
          clear kC'
          have kAB' := hU.heap kAB (by simp)
          clear kAB
          have kAB := kAB'
          clear kAB'
          have hVy54 := hVy44.trans hU
          clear hVy44 hU
          go_wp2_with (first
              | (with_reducible refine arm_load (by with_unfolding_all exact rfl) kAB Try.underlying29 (by with_unfolding_all exact rfl) s_AB ?_)
              | (with_reducible refine arm_load_g (by with_unfolding_all exact rfl) (by with_unfolding_all exact rfl) kAB Try.underlying29 (by with_unfolding_all exact rfl) s_AB ?_)
              | (with_reducible refine arm_load (by with_unfolding_all exact rfl) kA Try.underlying29 (by with_unfolding_all exact rfl) s_A ?_)
              | (with_reducible refine arm_load_g (by with_unfolding_all exact rfl) (by with_unfolding_all exact rfl) kA Try.underlying29 (by with_unfolding_all exact rfl) s_A ?_)
              | (with_reducible refine arm_load (by with_unfolding_all exact rfl) kB Try.underlying29 (by with_unfolding_all exact rfl) s_B ?_)
              | (with_reducible refine arm_load_g (by with_unfolding_all exact rfl) (by with_unfolding_all exact rfl) kB Try.underlying29 (by with_unfolding_all exact rfl) s_B ?_)
              | (with_reducible refine arm_load (by with_unfolding_all exact rfl) kC Try.underlying29 (by with_unfolding_all exact rfl) s_C ?_)
              | (with_reducible refine arm_load_g (by with_unfolding_all exact rfl) (by with_unfolding_all exact rfl) kC Try.underlying29 (by with_unfolding_all exact rfl) s_C ?_)
              )
          with_reducible refine (HC8.out _).mono ?_
          rintro e y55 ⟨rfl, hU⟩
          have kA' := hU.heap kA (by simp)
          clear kA
          have kA := kA'
          clear kA'
          have kB' := hU.heap kB (by simp)
          clear kB
          have kB := kB'
          clear kB'
          have kC' := hU.heap kC (by simp)
          clear kC
          have kC := kC'
          clear kC'
          have kAB' := hU.heap kAB (by simp)
          clear kAB
          have kAB := kAB'
          clear kAB'
          have hVy55 := hVy54.trans hU
          clear hVy54 hU
          cases c9 with
          | false =>
            go_upto_region 18 with (first
                | (with_reducible refine arm_load (by with_unfolding_all exact rfl) kAB Try.underlying29 (by with_unfolding_all exact rfl) s_AB ?_)
                | (with_reducible refine arm_load_g (by with_unfolding_all exact rfl) (by with_unfolding_all exact rfl) kAB Try.underlying29 (by with_unfolding_all exact rfl) s_AB ?_)
                | (with_reducible refine arm_load (by with_unfolding_all exact rfl) kA Try.underlying29 (by with_unfolding_all exact rfl) s_A ?_)
                | (with_reducible refine arm_load_g (by with_unfolding_all exact rfl) (by with_unfolding_all exact rfl) kA Try.underlying29 (by with_unfolding_all exact rfl) s_A ?_)
                | (with_reducible refine arm_load (by with_unfolding_all exact rfl) kB Try.underlying29 (by with_unfolding_all exact rfl) s_B ?_)
                | (with_reducible refine arm_load_g (by with_unfolding_all exact rfl) (by with_unfolding_all exact rfl) kB Try.underlying29 (by with_unfolding_all exact rfl) s_B ?_)
                | (with_reducible refine arm_load (by with_unfolding_all exact rfl) kC Try.underlying29 (by with_unfolding_all exact rfl) s_C ?_)
                | (with_reducible refine arm_load_g (by with_unfolding_all exact rfl) (by with_unfolding_all exact rfl) kC Try.underlying29 (by with_unfolding_all exact rfl) s_C ?_)
                )
            go_simp
            go_wp2_with (first
                | (with_reducible refine arm_load (by with_unfolding_all exact rfl) kAB Try.underlying29 (by with_unfolding_all exact rfl) s_AB ?_)
                | (with_reducible refine arm_load_g (by with_unfolding_all exact rfl) (by with_unfolding_all exact rfl) kAB Try.underlying29 (by with_unfolding_all exact rfl) s_AB ?_)
                | (with_reducible refine arm_load (by with_unfolding_all exact rfl) kA Try.underlying29 (by with_unfolding_all exact rfl) s_A ?_)
                | (with_reducible refine arm_load_g (by with_unfolding_all exact rfl) (by with_unfolding_all exact rfl) kA Try.underlying29 (by with_unfolding_all exact rfl) s_A ?_)
                | (with_reducible refine arm_load (by with_unfolding_all exact rfl) kB Try.underlying29 (by with_unfolding_all exact rfl) s_B ?_)
                | (with_reducible refine arm_load_g (by with_unfolding_all exact rfl) (by with_unfolding_all exact rfl) kB Try.underlying29 (by with_unfolding_all exact rfl) s_B ?_)
                | (with_reducible refine arm_load (by with_unfolding_all exact rfl) kC Try.underlying29 (by with_unfolding_all exact rfl) s_C ?_)
                | (with_reducible refine arm_load_g (by with_unfolding_all exact rfl) (by with_unfolding_all exact rfl) kC Try.underlying29 (by with_unfolding_all exact rfl) s_C ?_)
                )
            with_reducible refine (HC7.out _).mono ?_
            rintro e y56 ⟨rfl, hU⟩
            have kA' := hU.heap kA (by simp)
            clear kA
            have kA := kA'
            clear kA'
            have kB' := hU.heap kB (by simp)
            clear kB
            have kB := kB'
            clear kB'
            have kC' := hU.heap kC (by simp)
            clear kC
            have kC := kC'
            clear kC'
            have kAB' := hU.heap kAB (by simp)
            clear kAB
            have kAB := kAB'
            clear kAB'
            have hVy56 := hVy55.trans hU
            clear hVy55 hU
            go_wp2_with (first
                | (with_reducible refine arm_load (by with_unfolding_all exact rfl) kAB Try.underlying29 (by with_unfolding_all exact rfl) s_AB ?_)
                | (with_reducible refine arm_load_g (by with_unfolding_all exact rfl) (by with_unfolding_all exact rfl) kAB Try.underlying29 (by with_unfolding_all exact rfl) s_AB ?_)
                | (with_reducible refine arm_load (by with_unfolding_all exact rfl) kA Try.underlying29 (by with_unfolding_all exact rfl) s_A ?_)
                | (with_reducible refine arm_load_g (by with_unfolding_all exact rfl) (by with_unfolding_all exact rfl) kA Try.underlying29 (by with_unfolding_all exact rfl) s_A ?_)
                | (with_reducible refine arm_load (by with_unfolding_all exact rfl) kB Try.underlying29 (by with_unfolding_all exact rfl) s_B ?_)
                | (with_reducible refine arm_load_g (by with_unfolding_all exact rfl) (by with_unfolding_all exact rfl) kB Try.underlying29 (by with_unfolding_all exact rfl) s_B ?_)
                | (with_reducible refine arm_load (by with_unfolding_all exact rfl) kC Try.underlying29 (by with_unfolding_all exact rfl) s_C ?_)
                | (with_reducible refine arm_load_g (by with_unfolding_all exact rfl) (by with_unfolding_all exact rfl) kC Try.underlying29 (by with_unfolding_all exact rfl) s_C ?_)
                )
            with_reducible refine (HC9.out _).mono ?_
            rintro e y57 ⟨rfl, hU⟩
            have kA' := hU.heap kA (by simp)
            clear kA
            have kA := kA'
            clear kA'
            have kB' := hU.heap kB (by simp)
            clear kB
            have kB := kB'
            clear kB'
            have kC' := hU.heap kC (by simp)
            clear kC
            have kC := kC'
            clear kC'
            have kAB' := hU.heap kAB (by simp)
            clear kAB
            have kAB := kAB'
            clear kAB'
            have hVy57 := hVy56.trans hU
            clear hVy56 hU
            go_upto_region 20 with (first
                | (with_reducible refine arm_load (by with_unfolding_all exact rfl) kAB Try.underlying29 (by with_unfolding_all exact rfl) s_AB ?_)
                | (with_reducible refine arm_load_g (by with_unfolding_all exact rfl) (by with_unfolding_all exact rfl) kAB Try.underlying29 (by with_unfolding_all exact rfl) s_AB ?_)
                | (with_reducible refine arm_load (by with_unfolding_all exact rfl) kA Try.underlying29 (by with_unfolding_all exact rfl) s_A ?_)
                | (with_reducible refine arm_load_g (by with_unfolding_all exact rfl) (by with_unfolding_all exact rfl) kA Try.underlying29 (by with_unfolding_all exact rfl) s_A ?_)
                | (with_reducible refine arm_load (by with_unfolding_all exact rfl) kB Try.underlying29 (by with_unfolding_all exact rfl) s_B ?_)
                | (with_reducible refine arm_load_g (by with_unfolding_all exact rfl) (by with_unfolding_all exact rfl) kB Try.underlying29 (by with_unfolding_all exact rfl) s_B ?_)
                | (with_reducible refine arm_load (by with_unfolding_all exact rfl) kC Try.underlying29 (by with_unfolding_all exact rfl) s_C ?_)
                | (with_reducible refine arm_load_g (by with_unfolding_all exact rfl) (by with_unfolding_all exact rfl) kC Try.underlying29 (by with_unfolding_all exact rfl) s_C ?_)
                )
            go_simp
            go_wp2_with (fail)
            with_reducible refine (HKN.out _).mono ?_
            rintro e wz ⟨rfl, hU⟩
            go_wp2_with (fail)
            go_ret
            exact ⟨rfl, hVy57.trans hU⟩
          | true =>
            have hlast := HI3.out (by simp) (by simp)
            subst hlast
            go_upto_region 18 with (first
                | (with_reducible refine arm_load (by with_unfolding_all exact rfl) kAB Try.underlying29 (by with_unfolding_all exact rfl) s_AB ?_)
                | (with_reducible refine arm_load_g (by with_unfolding_all exact rfl) (by with_unfolding_all exact rfl) kAB Try.underlying29 (by with_unfolding_all exact rfl) s_AB ?_)
                | (with_reducible refine arm_load (by with_unfolding_all exact rfl) kA Try.underlying29 (by with_unfolding_all exact rfl) s_A ?_)
                | (with_reducible refine arm_load_g (by with_unfolding_all exact rfl) (by with_unfolding_all exact rfl) kA Try.underlying29 (by with_unfolding_all exact rfl) s_A ?_)
                | (with_reducible refine arm_load (by with_unfolding_all exact rfl) kB Try.underlying29 (by with_unfolding_all exact rfl) s_B ?_)
                | (with_reducible refine arm_load_g (by with_unfolding_all exact rfl) (by with_unfolding_all exact rfl) kB Try.underlying29 (by with_unfolding_all exact rfl) s_B ?_)
                | (with_reducible refine arm_load (by with_unfolding_all exact rfl) kC Try.underlying29 (by with_unfolding_all exact rfl) s_C ?_)
                | (with_reducible refine arm_load_g (by with_unfolding_all exact rfl) (by with_unfolding_all exact rfl) kC Try.underlying29 (by with_unfolding_all exact rfl) s_C ?_)
                )
            go_simp
            go_wp2_with (first
                | (with_reducible refine arm_load (by with_unfolding_all exact rfl) kAB Try.underlying29 (by with_unfolding_all exact rfl) s_AB ?_)
                | (with_reducible refine arm_load_g (by with_unfolding_all exact rfl) (by with_unfolding_all exact rfl) kAB Try.underlying29 (by with_unfolding_all exact rfl) s_AB ?_)
                | (with_reducible refine arm_load (by with_unfolding_all exact rfl) kA Try.underlying29 (by with_unfolding_all exact rfl) s_A ?_)
                | (with_reducible refine arm_load_g (by with_unfolding_all exact rfl) (by with_unfolding_all exact rfl) kA Try.underlying29 (by with_unfolding_all exact rfl) s_A ?_)
                | (with_reducible refine arm_load (by with_unfolding_all exact rfl) kB Try.underlying29 (by with_unfolding_all exact rfl) s_B ?_)
                | (with_reducible refine arm_load_g (by with_unfolding_all exact rfl) (by with_unfolding_all exact rfl) kB Try.underlying29 (by with_unfolding_all exact rfl) s_B ?_)
                | (with_reducible refine arm_load (by with_unfolding_all exact rfl) kC Try.underlying29 (by with_unfolding_all exact rfl) s_C ?_)
                | (with_reducible refine arm_load_g (by with_unfolding_all exact rfl) (by with_unfolding_all exact rfl) kC Try.underlying29 (by with_unfolding_all exact rfl) s_C ?_)
                )
            with_reducible refine (HC7.out _).mono ?_
            rintro e y58 ⟨rfl, hU⟩
            have kA' := hU.heap kA (by simp)
            clear kA
            have kA := kA'
            clear kA'
            have kB' := hU.heap kB (by simp)
            clear kB
            have kB := kB'
            clear kB'
            have kC' := hU.heap kC (by simp)
            clear kC
            have kC := kC'
            clear kC'
            have kAB' := hU.heap kAB (by simp)
            clear kAB
            have kAB := kAB'
            clear kAB'
            have hVy58 := hVy55.trans hU
            clear hVy55 hU
            go_wp2_with (first
                | (with_reducible refine arm_load (by with_unfolding_all exact rfl) kAB Try.underlying29 (by with_unfolding_all exact rfl) s_AB ?_)
                | (with_reducible refine arm_load_g (by with_unfolding_all exact rfl) (by with_unfolding_all exact rfl) kAB Try.underlying29 (by with_unfolding_all exact rfl) s_AB ?_)
                | (with_reducible refine arm_load (by with_unfolding_all exact rfl) kA Try.underlying29 (by with_unfolding_all exact rfl) s_A ?_)
                | (with_reducible refine arm_load_g (by with_unfolding_all exact rfl) (by with_unfolding_all exact rfl) kA Try.underlying29 (by with_unfolding_all exact rfl) s_A ?_)
                | (with_reducible refine arm_load (by with_unfolding_all exact rfl) kB Try.underlying29 (by with_unfolding_all exact rfl) s_B ?_)
                | (with_reducible refine arm_load_g (by with_unfolding_all exact rfl) (by with_unfolding_all exact rfl) kB Try.underlying29 (by with_unfolding_all exact rfl) s_B ?_)
                | (with_reducible refine arm_load (by with_unfolding_all exact rfl) kC Try.underlying29 (by with_unfolding_all exact rfl) s_C ?_)
                | (with_reducible refine arm_load_g (by with_unfolding_all exact rfl) (by with_unfolding_all exact rfl) kC Try.underlying29 (by with_unfolding_all exact rfl) s_C ?_)
                )
            with_reducible refine (HC9.out _).mono ?_
            rintro e y59 ⟨rfl, hU⟩
            have kA' := hU.heap kA (by simp)
            clear kA
            have kA := kA'
            clear kA'
            have kB' := hU.heap kB (by simp)
            clear kB
            have kB := kB'
            clear kB'
            have kC' := hU.heap kC (by simp)
            clear kC
            have kC := kC'
            clear kC'
            have kAB' := hU.heap kAB (by simp)
            clear kAB
            have kAB := kAB'
            clear kAB'
            have hVy59 := hVy58.trans hU
            clear hVy58 hU
            go_wp2_with (first
                | (with_reducible refine arm_load (by with_unfolding_all exact rfl) kAB Try.underlying29 (by with_unfolding_all exact rfl) s_AB ?_)
                | (with_reducible refine arm_load_g (by with_unfolding_all exact rfl) (by with_unfolding_all exact rfl) kAB Try.underlying29 (by with_unfolding_all exact rfl) s_AB ?_)
                | (with_reducible refine arm_load (by with_unfolding_all exact rfl) kA Try.underlying29 (by with_unfolding_all exact rfl) s_A ?_)
                | (with_reducible refine arm_load_g (by with_unfolding_all exact rfl) (by with_unfolding_all exact rfl) kA Try.underlying29 (by with_unfolding_all exact rfl) s_A ?_)
                | (with_reducible refine arm_load (by with_unfolding_all exact rfl) kB Try.underlying29 (by with_unfolding_all exact rfl) s_B ?_)
                | (with_reducible refine arm_load_g (by with_unfolding_all exact rfl) (by with_unfolding_all exact rfl) kB Try.underlying29 (by with_unfolding_all exact rfl) s_B ?_)
                | (with_reducible refine arm_load (by with_unfolding_all exact rfl) kC Try.underlying29 (by with_unfolding_all exact rfl) s_C ?_)
                | (with_reducible refine arm_load_g (by with_unfolding_all exact rfl) (by with_unfolding_all exact rfl) kC Try.underlying29 (by with_unfolding_all exact rfl) s_C ?_)
                )
            with_reducible refine (HC0.out _).mono ?_
            rintro e y60 ⟨rfl, hU⟩
            have kA' := hU.heap kA (by simp)
            clear kA
            have kA := kA'
            clear kA'
            have kB' := hU.heap kB (by simp)
            clear kB
            have kB := kB'
            clear kB'
            have kC' := hU.heap kC (by simp)
            clear kC
            have kC := kC'
            clear kC'
            have kAB' := hU.heap kAB (by simp)
            clear kAB
            have kAB := kAB'
            clear kAB'
            have hVy60 := hVy59.trans hU
            clear hVy59 hU
            go_upto_region 20 with (first
                | (with_reducible refine arm_load (by with_unfolding_all exact rfl) kAB Try.underlying29 (by with_unfolding_all exact rfl) s_AB ?_)
                | (with_reducible refine arm_load_g (by with_unfolding_all exact rfl) (by with_unfolding_all exact rfl) kAB Try.underlying29 (by with_unfolding_all exact rfl) s_AB ?_)
                | (with_reducible refine arm_load (by with_unfolding_all exact rfl) kA Try.underlying29 (by with_unfolding_all exact rfl) s_A ?_)
                | (with_reducible refine arm_load_g (by with_unfolding_all exact rfl) (by with_unfolding_all exact rfl) kA Try.underlying29 (by with_unfolding_all exact rfl) s_A ?_)
                | (with_reducible refine arm_load (by with_unfolding_all exact rfl) kB Try.underlying29 (by with_unfolding_all exact rfl) s_B ?_)
                | (with_reducible refine arm_load_g (by with_unfolding_all exact rfl) (by with_unfolding_all exact rfl) kB Try.underlying29 (by with_unfolding_all exact rfl) s_B ?_)
                | (with_reducible refine arm_load (by with_unfolding_all exact rfl) kC Try.underlying29 (by with_unfolding_all exact rfl) s_C ?_)
                | (with_reducible refine arm_load_g (by with_unfolding_all exact rfl) (by with_unfolding_all exact rfl) kC Try.underlying29 (by with_unfolding_all exact rfl) s_C ?_)
                )
            go_simp
            go_wp2_with (fail)
            with_reducible refine (HKN.out _).mono ?_
            rintro e wz ⟨rfl, hU⟩
            go_wp2_with (fail)
            go_ret
            exact ⟨rfl, hVy60.trans hU⟩
    | true =>
      have hlast := HI1.out (by simp) (by simp)
      subst hlast
      go_upto_region 14 with (first
          | (with_reducible refine arm_load (by with_unfolding_all exact rfl) kAB Try.underlying29 (by with_unfolding_all exact rfl) s_AB ?_)
          | (with_reducible refine arm_load_g (by with_unfolding_all exact rfl) (by with_unfolding_all exact rfl) kAB Try.underlying29 (by with_unfolding_all exact rfl) s_AB ?_)
          | (with_reducible refine arm_load (by with_unfolding_all exact rfl) kA Try.underlying29 (by with_unfolding_all exact rfl) s_A ?_)
          | (with_reducible refine arm_load_g (by with_unfolding_all exact rfl) (by with_unfolding_all exact rfl) kA Try.underlying29 (by with_unfolding_all exact rfl) s_A ?_)
          | (with_reducible refine arm_load (by with_unfolding_all exact rfl) kB Try.underlying29 (by with_unfolding_all exact rfl) s_B ?_)
          | (with_reducible refine arm_load_g (by with_unfolding_all exact rfl) (by with_unfolding_all exact rfl) kB Try.underlying29 (by with_unfolding_all exact rfl) s_B ?_)
          | (with_reducible refine arm_load (by with_unfolding_all exact rfl) kC Try.underlying29 (by with_unfolding_all exact rfl) s_C ?_)
          | (with_reducible refine arm_load_g (by with_unfolding_all exact rfl) (by with_unfolding_all exact rfl) kC Try.underlying29 (by with_unfolding_all exact rfl) s_C ?_)
          )
      go_simp
      go_wp2_with (first
          | (with_reducible refine arm_load (by with_unfolding_all exact rfl) kAB Try.underlying29 (by with_unfolding_all exact rfl) s_AB ?_)
          | (with_reducible refine arm_load_g (by with_unfolding_all exact rfl) (by with_unfolding_all exact rfl) kAB Try.underlying29 (by with_unfolding_all exact rfl) s_AB ?_)
          | (with_reducible refine arm_load (by with_unfolding_all exact rfl) kA Try.underlying29 (by with_unfolding_all exact rfl) s_A ?_)
          | (with_reducible refine arm_load_g (by with_unfolding_all exact rfl) (by with_unfolding_all exact rfl) kA Try.underlying29 (by with_unfolding_all exact rfl) s_A ?_)
          | (with_reducible refine arm_load (by with_unfolding_all exact rfl) kB Try.underlying29 (by with_unfolding_all exact rfl) s_B ?_)
          | (with_reducible refine arm_load_g (by with_unfolding_all exact rfl) (by with_unfolding_all exact rfl) kB Try.underlying29 (by with_unfolding_all exact rfl) s_B ?_)
          | (with_reducible refine arm_load (by with_unfolding_all exact rfl) kC Try.underlying29 (by with_unfolding_all exact rfl) s_C ?_)
          | (with_reducible refine arm_load_g (by with_unfolding_all exact rfl) (by with_unfolding_all exact rfl) kC Try.underlying29 (by with_unfolding_all exact rfl) s_C ?_)
          )
      with_reducible refine (HC4.out _).mono ?_
      rintro e y61 ⟨rfl, hU⟩
      have kA' := hU.heap kA (by simp)
      clear kA
      have kA := kA'
      clear kA'
      have kB' := hU.heap kB (by simp)
      clear kB
      have kB := kB'
      clear kB'
      have kC' := hU.heap kC (by simp)
      clear kC
      have kC := kC'
      clear kC'
      have kAB' := hU.heap kAB (by simp)
      clear kAB
      have kAB := kAB'
      clear kAB'
      have hVy61 := hVy25.trans hU
      clear hVy25 hU
      go_wp2_with (first
          | (with_reducible refine arm_load (by with_unfolding_all exact rfl) kAB Try.underlying29 (by with_unfolding_all exact rfl) s_AB ?_)
          | (with_reducible refine arm_load_g (by with_unfolding_all exact rfl) (by with_unfolding_all exact rfl) kAB Try.underlying29 (by with_unfolding_all exact rfl) s_AB ?_)
          | (with_reducible refine arm_load (by with_unfolding_all exact rfl) kA Try.underlying29 (by with_unfolding_all exact rfl) s_A ?_)
          | (with_reducible refine arm_load_g (by with_unfolding_all exact rfl) (by with_unfolding_all exact rfl) kA Try.underlying29 (by with_unfolding_all exact rfl) s_A ?_)
          | (with_reducible refine arm_load (by with_unfolding_all exact rfl) kB Try.underlying29 (by with_unfolding_all exact rfl) s_B ?_)
          | (with_reducible refine arm_load_g (by with_unfolding_all exact rfl) (by with_unfolding_all exact rfl) kB Try.underlying29 (by with_unfolding_all exact rfl) s_B ?_)
          | (with_reducible refine arm_load (by with_unfolding_all exact rfl) kC Try.underlying29 (by with_unfolding_all exact rfl) s_C ?_)
          | (with_reducible refine arm_load_g (by with_unfolding_all exact rfl) (by with_unfolding_all exact rfl) kC Try.underlying29 (by with_unfolding_all exact rfl) s_C ?_)
          )
      with_reducible refine (HC5.out _).mono ?_
      rintro e y62 ⟨rfl, hU⟩
      have kA' := hU.heap kA (by simp)
      clear kA
      have kA := kA'
      clear kA'
      have kB' := hU.heap kB (by simp)
      clear kB
      have kB := kB'
      clear kB'
      have kC' := hU.heap kC (by simp)
      clear kC
      have kC := kC'
      clear kC'
      have kAB' := hU.heap kAB (by simp)
      clear kAB
      have kAB := kAB'
      clear kAB'
      have hVy62 := hVy61.trans hU
      clear hVy61 hU
      go_wp2_with (first
          | (with_reducible refine arm_load (by with_unfolding_all exact rfl) kAB Try.underlying29 (by with_unfolding_all exact rfl) s_AB ?_)
          | (with_reducible refine arm_load_g (by with_unfolding_all exact rfl) (by with_unfolding_all exact rfl) kAB Try.underlying29 (by with_unfolding_all exact rfl) s_AB ?_)
          | (with_reducible refine arm_load (by with_unfolding_all exact rfl) kA Try.underlying29 (by with_unfolding_all exact rfl) s_A ?_)
          | (with_reducible refine arm_load_g (by with_unfolding_all exact rfl) (by with_unfolding_all exact rfl) kA Try.underlying29 (by with_unfolding_all exact rfl) s_A ?_)
          | (with_reducible refine arm_load (by with_unfolding_all exact rfl) kB Try.underlying29 (by with_unfolding_all exact rfl) s_B ?_)
          | (with_reducible refine arm_load_g (by with_unfolding_all exact rfl) (by with_unfolding_all exact rfl) kB Try.underlying29 (by with_unfolding_all exact rfl) s_B ?_)
          | (with_reducible refine arm_load (by with_unfolding_all exact rfl) kC Try.underlying29 (by with_unfolding_all exact rfl) s_C ?_)
          | (with_reducible refine arm_load_g (by with_unfolding_all exact rfl) (by with_unfolding_all exact rfl) kC Try.underlying29 (by with_unfolding_all exact rfl) s_C ?_)
          )
      with_reducible refine (HC6.out _).mono ?_
      rintro e y63 ⟨rfl, hU⟩
      have kA' := hU.heap kA (by simp)
      clear kA
      have kA := kA'
      clear kA'
      have kB' := hU.heap kB (by simp)
      clear kB
      have kB := kB'
      clear kB'
      have kC' := hU.heap kC (by simp)
      clear kC
      have kC := kC'
      clear kC'
      have kAB' := hU.heap kAB (by simp)
      clear kAB
      have kAB := kAB'
      clear kAB'
      have hVy63 := hVy62.trans hU
      clear hVy62 hU
      cases c7 with
      | false =>
        go_upto_region 16 with (first
            | (with_reducible refine arm_load (by with_unfolding_all exact rfl) kAB Try.underlying29 (by with_unfolding_all exact rfl) s_AB ?_)
            | (with_reducible refine arm_load_g (by with_unfolding_all exact rfl) (by with_unfolding_all exact rfl) kAB Try.underlying29 (by with_unfolding_all exact rfl) s_AB ?_)
            | (with_reducible refine arm_load (by with_unfolding_all exact rfl) kA Try.underlying29 (by with_unfolding_all exact rfl) s_A ?_)
            | (with_reducible refine arm_load_g (by with_unfolding_all exact rfl) (by with_unfolding_all exact rfl) kA Try.underlying29 (by with_unfolding_all exact rfl) s_A ?_)
            | (with_reducible refine arm_load (by with_unfolding_all exact rfl) kB Try.underlying29 (by with_unfolding_all exact rfl) s_B ?_)
            | (with_reducible refine arm_load_g (by with_unfolding_all exact rfl) (by with_unfolding_all exact rfl) kB Try.underlying29 (by with_unfolding_all exact rfl) s_B ?_)
            | (with_reducible refine arm_load (by with_unfolding_all exact rfl) kC Try.underlying29 (by with_unfolding_all exact rfl) s_C ?_)
            | (with_reducible refine arm_load_g (by with_unfolding_all exact rfl) (by with_unfolding_all exact rfl) kC Try.underlying29 (by with_unfolding_all exact rfl) s_C ?_)
            )
        go_simp
        go_wp2_with (first
            | (with_reducible refine arm_load (by with_unfolding_all exact rfl) kAB Try.underlying29 (by with_unfolding_all exact rfl) s_AB ?_)
            | (with_reducible refine arm_load_g (by with_unfolding_all exact rfl) (by with_unfolding_all exact rfl) kAB Try.underlying29 (by with_unfolding_all exact rfl) s_AB ?_)
            | (with_reducible refine arm_load (by with_unfolding_all exact rfl) kA Try.underlying29 (by with_unfolding_all exact rfl) s_A ?_)
            | (with_reducible refine arm_load_g (by with_unfolding_all exact rfl) (by with_unfolding_all exact rfl) kA Try.underlying29 (by with_unfolding_all exact rfl) s_A ?_)
            | (with_reducible refine arm_load (by with_unfolding_all exact rfl) kB Try.underlying29 (by with_unfolding_all exact rfl) s_B ?_)
            | (with_reducible refine arm_load_g (by with_unfolding_all exact rfl) (by with_unfolding_all exact rfl) kB Try.underlying29 (by with_unfolding_all exact rfl) s_B ?_)
            | (with_reducible refine arm_load (by with_unfolding_all exact rfl) kC Try.underlying29 (by with_unfolding_all exact rfl) s_C ?_)
            | (with_reducible refine arm_load_g (by with_unfolding_all exact rfl) (by with_unfolding_all exact rfl) kC Try.underlying29 (by with_unfolding_all exact rfl) s_C ?_)
            )
        with_reducible refine (HC7.out _).mono ?_
        rintro e y64 ⟨rfl, hU⟩
        have kA' := hU.heap kA (by simp)
        clear kA
        have kA := kA'
        clear kA'
        have kB' := hU.heap kB (by simp)
        clear kB
        have kB := kB'
        clear kB'
        have kC' := hU.heap kC (by simp)
        clear kC
        have kC := kC'
        clear kC'
        have kAB' := hU.heap kAB (by simp)
        clear kAB
        have kAB := kAB'
        clear kAB'
        have hVy64 := hVy63.trans hU
        clear hVy63 hU
        go_upto_region 18 with (first
            | (with_reducible refine arm_load (by with_unfolding_all exact rfl) kAB Try.underlying29 (by with_unfolding_all exact rfl) s_AB ?_)
            | (with_reducible refine arm_load_g (by with_unfolding_all exact rfl) (by with_unfolding_all exact rfl) kAB Try.underlying29 (by with_unfolding_all exact rfl) s_AB ?_)
            | (with_reducible refine arm_load (by with_unfolding_all exact rfl) kA Try.underlying29 (by with_unfolding_all exact rfl) s_A ?_)
            | (with_reducible refine arm_load_g (by with_unfolding_all exact rfl) (by with_unfolding_all exact rfl) kA Try.underlying29 (by with_unfolding_all exact rfl) s_A ?_)
            | (with_reducible refine arm_load (by with_unfolding_all exact rfl) kB Try.underlying29 (by with_unfolding_all exact rfl) s_B ?_)
            | (with_reducible refine arm_load_g (by with_unfolding_all exact rfl) (by with_unfolding_all exact rfl) kB Try.underlying29 (by with_unfolding_all exact rfl) s_B ?_)
            | (with_reducible refine arm_load (by with_unfolding_all exact rfl) kC Try.underlying29 (by with_unfolding_all exact rfl) s_C ?_)
            | (with_reducible refine arm_load_g (by with_unfolding_all exact rfl) (by with_unfolding_all exact rfl) kC Try.underlying29 (by with_unfolding_all exact rfl) s_C ?_)
            )
        go_simp
        go_wp2_with (first
            | (with_reducible refine arm_load (by with_unfolding_all exact rfl) kAB Try.underlying29 (by with_unfolding_all exact rfl) s_AB ?_)
            | (with_reducible refine arm_load_g (by with_unfolding_all exact rfl) (by with_unfolding_all exact rfl) kAB Try.underlying29 (by with_unfolding_all exact rfl) s_AB ?_)
            | (with_reducible refine arm_load (by with_unfolding_all exact rfl) kA Try.underlying29 (by with_unfolding_all exact rfl) s_A ?_)
            | (with_reducible refine arm_load_g (by with_unfolding_all exact rfl) (by with_unfolding_all exact rfl) kA Try.underlying29 (by with_unfolding_all exact rfl) s_A ?_)
            | (with_reducible refine arm_load (by with_unfolding_all exact rfl) kB Try.underlying29 (by with_unfolding_all exact rfl) s_B ?_)
            | (with_reducible refine arm_load_g (by with_unfolding_all exact rfl) (by with_unfolding_all exact rfl) kB Try.underlying29 (by with_unfolding_all exact rfl) s_B ?_)
            | (with_reducible refine arm_load (by with_unfolding_all exact rfl) kC Try.underlying29 (by with_unfolding_all exact rfl) s_C ?_)
            | (with_reducible refine arm_load_g (by with_unfolding_all exact rfl) (by with_unfolding_all exact rfl) kC Try.underlying29 (by with_unfolding_all exact rfl) s_C ?_)
            )
        with_reducible refine (HC7.out _).mono ?_
        rintro e y65 ⟨rfl, hU⟩
        have kA' := hU.heap kA (by simp)
        clear kA
        have kA := kA'
        clear kA'
        have kB' := hU.heap kB (by simp)
        clear kB
        have kB := kB'
        clear kB'
        have kC' := hU.heap kC (by simp)
        clear kC
        have kC := kC'
        clear kC'
        have kAB' := hU.heap kAB (by simp)
        clear kAB
        have kAB := kAB'
        clear kAB'
        have hVy65 := hVy64.trans hU
        clear hVy64 hU
        go_upto_region 20 with (first
            | (with_reducible refine arm_load (by with_unfolding_all exact rfl) kAB Try.underlying29 (by with_unfolding_all exact rfl) s_AB ?_)
            | (with_reducible refine arm_load_g (by with_unfolding_all exact rfl) (by with_unfolding_all exact rfl) kAB Try.underlying29 (by with_unfolding_all exact rfl) s_AB ?_)
            | (with_reducible refine arm_load (by with_unfolding_all exact rfl) kA Try.underlying29 (by with_unfolding_all exact rfl) s_A ?_)
            | (with_reducible refine arm_load_g (by with_unfolding_all exact rfl) (by with_unfolding_all exact rfl) kA Try.underlying29 (by with_unfolding_all exact rfl) s_A ?_)
            | (with_reducible refine arm_load (by with_unfolding_all exact rfl) kB Try.underlying29 (by with_unfolding_all exact rfl) s_B ?_)
            | (with_reducible refine arm_load_g (by with_unfolding_all exact rfl) (by with_unfolding_all exact rfl) kB Try.underlying29 (by with_unfolding_all exact rfl) s_B ?_)
            | (with_reducible refine arm_load (by with_unfolding_all exact rfl) kC Try.underlying29 (by with_unfolding_all exact rfl) s_C ?_)
            | (with_reducible refine arm_load_g (by with_unfolding_all exact rfl) (by with_unfolding_all exact rfl) kC Try.underlying29 (by with_unfolding_all exact rfl) s_C ?_)
            )
        go_simp
        go_wp2_with (fail)
        with_reducible refine (HKN.out _).mono ?_
        rintro e wz ⟨rfl, hU⟩
        go_wp2_with (fail)
        go_ret
        exact ⟨rfl, hVy65.trans hU⟩
      | true =>
        cases c8 with
        | false =>
          go_upto_region 16 with (first
              | (with_reducible refine arm_load (by with_unfolding_all exact rfl) kAB Try.underlying29 (by with_unfolding_all exact rfl) s_AB ?_)
              | (with_reducible refine arm_load_g (by with_unfolding_all exact rfl) (by with_unfolding_all exact rfl) kAB Try.underlying29 (by with_unfolding_all exact rfl) s_AB ?_)
              | (with_reducible refine arm_load (by with_unfolding_all exact rfl) kA Try.underlying29 (by with_unfolding_all exact rfl) s_A ?_)
              | (with_reducible refine arm_load_g (by with_unfolding_all exact rfl) (by with_unfolding_all exact rfl) kA Try.underlying29 (by with_unfolding_all exact rfl) s_A ?_)
              | (with_reducible refine arm_load (by with_unfolding_all exact rfl) kB Try.underlying29 (by with_unfolding_all exact rfl) s_B ?_)
              | (with_reducible refine arm_load_g (by with_unfolding_all exact rfl) (by with_unfolding_all exact rfl) kB Try.underlying29 (by with_unfolding_all exact rfl) s_B ?_)
              | (with_reducible refine arm_load (by with_unfolding_all exact rfl) kC Try.underlying29 (by with_unfolding_all exact rfl) s_C ?_)
              | (with_reducible refine arm_load_g (by with_unfolding_all exact rfl) (by with_unfolding_all exact rfl) kC Try.underlying29 (by with_unfolding_all exact rfl) s_C ?_)
              )
          go_simp
          go_wp2_with (first
              | (with_reducible refine arm_load (by with_unfolding_all exact rfl) kAB Try.underlying29 (by with_unfolding_all exact rfl) s_AB ?_)
              | (with_reducible refine arm_load_g (by with_unfolding_all exact rfl) (by with_unfolding_all exact rfl) kAB Try.underlying29 (by with_unfolding_all exact rfl) s_AB ?_)
              | (with_reducible refine arm_load (by with_unfolding_all exact rfl) kA Try.underlying29 (by with_unfolding_all exact rfl) s_A ?_)
              | (with_reducible refine arm_load_g (by with_unfolding_all exact rfl) (by with_unfolding_all exact rfl) kA Try.underlying29 (by with_unfolding_all exact rfl) s_A ?_)
              | (with_reducible refine arm_load (by with_unfolding_all exact rfl) kB Try.underlying29 (by with_unfolding_all exact rfl) s_B ?_)
              | (with_reducible refine arm_load_g (by with_unfolding_all exact rfl) (by with_unfolding_all exact rfl) kB Try.underlying29 (by with_unfolding_all exact rfl) s_B ?_)
              | (with_reducible refine arm_load (by with_unfolding_all exact rfl) kC Try.underlying29 (by with_unfolding_all exact rfl) s_C ?_)
              | (with_reducible refine arm_load_g (by with_unfolding_all exact rfl) (by with_unfolding_all exact rfl) kC Try.underlying29 (by with_unfolding_all exact rfl) s_C ?_)
              )
          with_reducible refine (HC7.out _).mono ?_
          rintro e y66 ⟨rfl, hU⟩
          have kA' := hU.heap kA (by simp)
          clear kA
          have kA := kA'
          clear kA'
          have kB' := hU.heap kB (by simp)
          clear kB
          have kB := kB'
          clear kB'
          have kC' := hU.heap kC (by simp)
          clear kC
          have kC := kC'
          clear kC'
          have kAB' := hU.heap kAB (by simp)
          clear kAB
          have kAB := kAB'
          clear kAB'
          have hVy66 := hVy63.trans hU
          clear hVy63 hU
          go_wp2_with (first
              | (with_reducible refine arm_load (by with_unfolding_all exact rfl) kAB Try.underlying29 (by with_unfolding_all exact rfl) s_AB ?_)
              | (with_reducible refine arm_load_g (by with_unfolding_all exact rfl) (by with_unfolding_all exact rfl) kAB Try.underlying29 (by with_unfolding_all exact rfl) s_AB ?_)
              | (with_reducible refine arm_load (by with_unfolding_all exact rfl) kA Try.underlying29 (by with_unfolding_all exact rfl) s_A ?_)
              | (with_reducible refine arm_load_g (by with_unfolding_all exact rfl) (by with_unfolding_all exact rfl) kA Try.underlying29 (by with_unfolding_all exact rfl) s_A ?_)
              | (with_reducible refine arm_load (by with_unfolding_all exact rfl) kB Try.underlying29 (by with_unfolding_all exact rfl) s_B ?_)
              | (with_reducible refine arm_load_g (by with_unfolding_all exact rfl) (by with_unfolding_all exact rfl) kB Try.underlying29 (by with_unfolding_all exact rfl) s_B ?_)
              | (with_reducible refine arm_load (by with_unfolding_all exact rfl) kC Try.underlying29 (by with_unfolding_all exact rfl) s_C ?_)
              | (with_reducible refine arm_load_g (by with_unfolding_all exact rfl) (by with_unfolding_all exact rfl) kC Try.underlying29 (by with_unfolding_all exact rfl) s_C ?_)
              )
          with_reducible refine (HC8.out _).mono ?_
          rintro e y67 ⟨rfl, hU⟩
          have kA' := hU.heap kA (by simp)
          clear kA
          have kA := kA'
          clear kA'
          have kB' := hU.heap kB (by simp)
          clear kB
          have kB := kB'
          clear kB'
          have kC' := hU.heap kC (by simp)
          clear kC
          have kC := kC'
          clear kC'
          have kAB' := hU.heap kAB (by simp)
          clear kAB
          have kAB := kAB'
          clear kAB'
          have hVy67 := hVy66.trans hU
          clear hVy66 hU
          cases c9 with
          | false =>
            go_upto_region 18 with (first
                | (with_reducible refine arm_load (by with_unfolding_all exact rfl) kAB Try.underlying29 (by with_unfolding_all exact rfl) s_AB ?_)
                | (with_reducible refine arm_load_g (by with_unfolding_all exact rfl) (by with_unfolding_all exact rfl) kAB Try.underlying29 (by with_unfolding_all exact rfl) s_AB ?_)
                | (with_reducible refine arm_load (by with_unfolding_all exact rfl) kA Try.underlying29 (by with_unfolding_all exact rfl) s_A ?_)
                | (with_reducible refine arm_load_g (by with_unfolding_all exact rfl) (by with_unfolding_all exact rfl) kA Try.underlying29 (by with_unfolding_all exact rfl) s_A ?_)
                | (with_reducible refine arm_load (by with_unfolding_all exact rfl) kB Try.underlying29 (by with_unfolding_all exact rfl) s_B ?_)
                | (with_reducible refine arm_load_g (by with_unfolding_all exact rfl) (by with_unfolding_all exact rfl) kB Try.underlying29 (by with_unfolding_all exact rfl) s_B ?_)
                | (with_reducible refine arm_load (by with_unfolding_all exact rfl) kC Try.underlying29 (by with_unfolding_all exact rfl) s_C ?_)
                | (with_reducible refine arm_load_g (by with_unfolding_all exact rfl) (by with_unfolding_all exact rfl) kC Try.underlying29 (by with_unfolding_all exact rfl) s_C ?_)
                )
            go_simp
            go_wp2_with (first
                | (with_reducible refine arm_load (by with_unfolding_all exact rfl) kAB Try.underlying29 (by with_unfolding_all exact rfl) s_AB ?_)
                | (with_reducible refine arm_load_g (by with_unfolding_all exact rfl) (by with_unfolding_all exact rfl) kAB Try.underlying29 (by with_unfolding_all exact rfl) s_AB ?_)
                | (with_reducible refine arm_load (by with_unfolding_all exact rfl) kA Try.underlying29 (by with_unfolding_all exact rfl) s_A ?_)
                | (with_reducible refine arm_load_g (by with_unfolding_all exact rfl) (by with_unfolding_all exact rfl) kA Try.underlying29 (by with_unfolding_all exact rfl) s_A ?_)
                | (with_reducible refine arm_load (by with_unfolding_all exact rfl) kB Try.underlying29 (by with_unfolding_all exact rfl) s_B ?_)
                | (with_reducible refine arm_load_g (by with_unfolding_all exact rfl) (by with_unfolding_all exact rfl) kB Try.underlying29 (by with_unfolding_all exact rfl) s_B ?_)
                | (with_reducible refine arm_load (by with_unfolding_all exact rfl) kC Try.underlying29 (by with_unfolding_all exact rfl) s_C ?_)
                | (with_reducible refine arm_load_g (by with_unfolding_all exact rfl) (by with_unfolding_all exact rfl) kC Try.underlying29 (by with_unfolding_all exact rfl) s_C ?_)
                )
            with_reducible refine (HC7.out _).mono ?_
            rintro e y68 ⟨rfl, hU⟩
            have kA' := hU.heap kA (by simp)
            clear kA
            have kA := kA'
            clear kA'
            have kB' := hU.heap kB (by simp)
            clear kB
            have kB := kB'
            clear kB'
            have kC' := hU.heap kC (by simp)
            clear kC
            have kC := kC'
            clear kC'
            have kAB' := hU.heap kAB (by simp)
            clear kAB
            have kAB := kAB'
            clear kAB'
            have hVy68 := hVy67.trans hU
            clear hVy67 hU
            go_wp2_with (first
                | (with_reducible refine arm_load (by with_unfolding_all exact rfl) kAB Try.underlying29 (by with_unfolding_all exact rfl) s_AB ?_)
                | (with_reducible refine arm_load_g (by with_unfolding_all exact rfl) (by with_unfolding_all exact rfl) kAB Try.underlying29 (by with_unfolding_all exact rfl) s_AB ?_)
                | (with_reducible refine arm_load (by with_unfolding_all exact rfl) kA Try.underlying29 (by with_unfolding_all exact rfl) s_A ?_)
                | (with_reducible refine arm_load_g (by with_unfolding_all exact rfl) (by with_unfolding_all exact rfl) kA Try.underlying29 (by with_unfolding_all exact rfl) s_A ?_)
                | (with_reducible refine arm_load (by with_unfolding_all exact rfl) kB Try.underlying29 (by with_unfolding_all exact rfl) s_B ?_)
                | (with_reducible refine arm_load_g (by with_unfolding_all exact rfl) (by with_unfolding_all exact rfl) kB Try.underlying29 (by with_unfolding_all exact rfl) s_B ?_)
                | (with_reducible refine arm_load (by with_unfolding_all exact rfl) kC Try.underlying29 (by with_unfolding_all exact rfl) s_C ?_)
                | (with_reducible refine arm_load_g (by with_unfolding_all exact rfl) (by with_unfolding_all exact rfl) kC Try.underlying29 (by with_unfolding_all exact rfl) s_C ?_)
                )
            with_reducible refine (HC9.out _).mono ?_
            rintro e y69 ⟨rfl, hU⟩
            have kA' := hU.heap kA (by simp)
            clear kA
            have kA := kA'
            clear kA'
            have kB' := hU.heap kB (by simp)
            clear kB
            have kB := kB'
            clear kB'
            have kC' := hU.heap kC (by simp)
            clear kC
            have kC := kC'
            clear kC'
            have kAB' := hU.heap kAB (by simp)
            clear kAB
            have kAB := kAB'
            clear kAB'
            have hVy69 := hVy68.trans hU
            clear hVy68 hU
            go_upto_region 20 with (first
                | (with_reducible refine arm_load (by with_unfolding_all exact rfl) kAB Try.underlying29 (by with_unfolding_all exact rfl) s_AB ?_)
                | (with_reducible refine arm_load_g (by with_unfolding_all exact rfl) (by with_unfolding_all exact rfl) kAB Try.underlying29 (by with_unfolding_all exact rfl) s_AB ?_)
                | (with_reducible refine arm_load (by with_unfolding_all exact rfl) kA Try.underlying29 (by with_unfolding_all exact rfl) s_A ?_)
                | (with_reducible refine arm_load_g (by with_unfolding_all exact rfl) (by with_unfolding_all exact rfl) kA Try.underlying29 (by with_unfolding_all exact rfl) s_A ?_)
                | (with_reducible refine arm_load (by with_unfolding_all exact rfl) kB Try.underlying29 (by with_unfolding_all exact rfl) s_B ?_)
                | (with_reducible refine arm_load_g (by with_unfolding_all exact rfl) (by with_unfolding_all exact rfl) kB Try.underlying29 (by with_unfolding_all exact rfl) s_B ?_)
                | (with_reducible refine arm_load (by with_unfolding_all exact rfl) kC Try.underlying29 (by with_unfolding_all exact rfl) s_C ?_)
                | (with_reducible refine arm_load_g (by with_unfolding_all exact rfl) (by with_unfolding_all exact rfl) kC Try.underlying29 (by with_unfolding_all exact rfl) s_C ?_)
                )
            go_simp
            go_wp2_with (fail)
            with_reducible refine (HKN.out _).mono ?_
            rintro e wz ⟨rfl, hU⟩
            go_wp2_with (fail)
            go_ret
            exact ⟨rfl, hVy69.trans hU⟩
          | true =>
            have hlast := HI3.out (by simp) (by simp)
            subst hlast
            go_upto_region 18 with (first
                | (with_reducible refine arm_load (by with_unfolding_all exact rfl) kAB Try.underlying29 (by with_unfolding_all exact rfl) s_AB ?_)
                | (with_reducible refine arm_load_g (by with_unfolding_all exact rfl) (by with_unfolding_all exact rfl) kAB Try.underlying29 (by with_unfolding_all exact rfl) s_AB ?_)
                | (with_reducible refine arm_load (by with_unfolding_all exact rfl) kA Try.underlying29 (by with_unfolding_all exact rfl) s_A ?_)
                | (with_reducible refine arm_load_g (by with_unfolding_all exact rfl) (by with_unfolding_all exact rfl) kA Try.underlying29 (by with_unfolding_all exact rfl) s_A ?_)
                | (with_reducible refine arm_load (by with_unfolding_all exact rfl) kB Try.underlying29 (by with_unfolding_all exact rfl) s_B ?_)
                | (with_reducible refine arm_load_g (by with_unfolding_all exact rfl) (by with_unfolding_all exact rfl) kB Try.underlying29 (by with_unfolding_all exact rfl) s_B ?_)
                | (with_reducible refine arm_load (by with_unfolding_all exact rfl) kC Try.underlying29 (by with_unfolding_all exact rfl) s_C ?_)
                | (with_reducible refine arm_load_g (by with_unfolding_all exact rfl) (by with_unfolding_all exact rfl) kC Try.underlying29 (by with_unfolding_all exact rfl) s_C ?_)
                )
            go_simp
            go_wp2_with (first
                | (with_reducible refine arm_load (by with_unfolding_all exact rfl) kAB Try.underlying29 (by with_unfolding_all exact rfl) s_AB ?_)
                | (with_reducible refine arm_load_g (by with_unfolding_all exact rfl) (by with_unfolding_all exact rfl) kAB Try.underlying29 (by with_unfolding_all exact rfl) s_AB ?_)
                | (with_reducible refine arm_load (by with_unfolding_all exact rfl) kA Try.underlying29 (by with_unfolding_all exact rfl) s_A ?_)
                | (with_reducible refine arm_load_g (by with_unfolding_all exact rfl) (by with_unfolding_all exact rfl) kA Try.underlying29 (by with_unfolding_all exact rfl) s_A ?_)
                | (with_reducible refine arm_load (by with_unfolding_all exact rfl) kB Try.underlying29 (by with_unfolding_all exact rfl) s_B ?_)
                | (with_reducible refine arm_load_g (by with_unfolding_all exact rfl) (by with_unfolding_all exact rfl) kB Try.underlying29 (by with_unfolding_all exact rfl) s_B ?_)
                | (with_reducible refine arm_load (by with_unfolding_all exact rfl) kC Try.underlying29 (by with_unfolding_all exact rfl) s_C ?_)
                | (with_reducible refine arm_load_g (by with_unfolding_all exact rfl) (by with_unfolding_all exact rfl) kC Try.underlying29 (by with_unfolding_all exact rfl) s_C ?_)
                )
            with_reducible refine (HC7.out _).mono ?_
            rintro e y70 ⟨rfl, hU⟩
            have kA' := hU.heap kA (by simp)
            clear kA
            have kA := kA'
            clear kA'
            have kB' := hU.heap kB (by simp)
            clear kB
            have kB := kB'
            clear kB'
            have kC' := hU.heap kC (by simp)
            clear kC
            have kC := kC'
            clear kC'
            have kAB' := hU.heap kAB (by simp)
            clear kAB
            have kAB := kAB'
            clear kAB'
            have hVy70 := hVy67.trans hU
            clear hVy67 hU
            go_wp2_with (first
                | (with_reducible refine arm_load (by with_unfolding_all exact rfl) kAB Try.underlying29 (by with_unfolding_all exact rfl) s_AB ?_)
                | (with_reducible refine arm_load_g (by with_unfolding_all exact rfl) (by with_unfolding_all exact rfl) kAB Try.underlying29 (by with_unfolding_all exact rfl) s_AB ?_)
                | (with_reducible refine arm_load (by with_unfolding_all exact rfl) kA Try.underlying29 (by with_unfolding_all exact rfl) s_A ?_)
                | (with_reducible refine arm_load_g (by with_unfolding_all exact rfl) (by with_unfolding_all exact rfl) kA Try.underlying29 (by with_unfolding_all exact rfl) s_A ?_)
                | (with_reducible refine arm_load (by with_unfolding_all exact rfl) kB Try.underlying29 (by with_unfolding_all exact rfl) s_B ?_)
                | (with_reducible refine arm_load_g (by with_unfolding_all exact rfl) (by with_unfolding_all exact rfl) kB Try.underlying29 (by with_unfolding_all exact rfl) s_B ?_)
                | (with_reducible refine arm_load (by with_unfolding_all exact rfl) kC Try.underlying29 (by with_unfolding_all exact rfl) s_C ?_)
                | (with_reducible refine arm_load_g (by with_unfolding_all exact rfl) (by with_unfolding_all exact rfl) kC Try.underlying29 (by with_unfolding_all exact rfl) s_C ?_)
                )
            with_reducible refine (HC9.out _).mono ?_
            rintro e y71 ⟨rfl, hU⟩
            have kA' := hU.heap kA (by simp)
            clear kA
            have kA := kA'
            clear kA'
            have kB' := hU.heap kB (by simp)
            clear kB
            have kB := kB'
            clear kB'
            have kC' := hU.heap kC (by simp)
            clear kC
            have kC := kC'
            clear kC'
            have kAB' := hU.heap kAB (by simp)
            clear kAB
            have kAB := kAB'
            clear kAB'
            have hVy71 := hVy70.trans hU
            clear hVy70 hU
            go_wp2_with (first
                | (with_reducible refine arm_load (by with_unfolding_all exact rfl) kAB Try.underlying29 (by with_unfolding_all exact rfl) s_AB ?_)
                | (with_reducible refine arm_load_g (by with_unfolding_all exact rfl) (by with_unfolding_all exact rfl) kAB Try.underlying29 (by with_unfolding_all exact rfl) s_AB ?_)
                | (with_reducible refine arm_load (by with_unfolding_all exact rfl) kA Try.underlying29 (by with_unfolding_all exact rfl) s_A ?_)
                | (with_reducible refine arm_load_g (by with_unfolding_all exact rfl) (by with_unfolding_all exact rfl) kA Try.underlying29 (by with_unfolding_all exact rfl) s_A ?_)
                | (with_reducible refine arm_load (by with_unfolding_all exact rfl) kB Try.underlying29 (by with_unfolding_all exact rfl) s_B ?_)
                | (with_reducible refine arm_load_g (by with_unfolding_all exact rfl) (by with_unfolding_all exact rfl) kB Try.underlying29 (by with_unfolding_all exact rfl) s_B ?_)
                | (with_reducible refine arm_load (by with_unfolding_all exact rfl) kC Try.underlying29 (by with_unfolding_all exact rfl) s_C ?_)
                | (with_reducible refine arm_load_g (by with_unfolding_all exact rfl) (by with_unfolding_all exact rfl) kC Try.underlying29 (by with_unfolding_all exact rfl) s_C ?_)
                )
            with_reducible refine (HC0.out _).mono ?_
            rintro e y72 ⟨rfl, hU⟩
            have kA' := hU.heap kA (by simp)
            clear kA
            have kA := kA'
            clear kA'
            have kB' := hU.heap kB (by simp)
            clear kB
            have kB := kB'
            clear kB'
            have kC' := hU.heap kC (by simp)
            clear kC
            have kC := kC'
            clear kC'
            have kAB' := hU.heap kAB (by simp)
            clear kAB
            have kAB := kAB'
            clear kAB'
            have hVy72 := hVy71.trans hU
            clear hVy71 hU
            go_upto_region 20 with (first
                | (with_reducible refine arm_load (by with_unfolding_all exact rfl) kAB Try.underlying29 (by with_unfolding_all exact rfl) s_AB ?_)
                | (with_reducible refine arm_load_g (by with_unfolding_all exact rfl) (by with_unfolding_all exact rfl) kAB Try.underlying29 (by with_unfolding_all exact rfl) s_AB ?_)
                | (with_reducible refine arm_load (by with_unfolding_all exact rfl) kA Try.underlying29 (by with_unfolding_all exact rfl) s_A ?_)
                | (with_reducible refine arm_load_g (by with_unfolding_all exact rfl) (by with_unfolding_all exact rfl) kA Try.underlying29 (by with_unfolding_all exact rfl) s_A ?_)
                | (with_reducible refine arm_load (by with_unfolding_all exact rfl) kB Try.underlying29 (by with_unfolding_all exact rfl) s_B ?_)
                | (with_reducible refine arm_load_g (by with_unfolding_all exact rfl) (by with_unfolding_all exact rfl) kB Try.underlying29 (by with_unfolding_all exact rfl) s_B ?_)
                | (with_reducible refine arm_load (by with_unfolding_all exact rfl) kC Try.underlying29 (by with_unfolding_all exact rfl) s_C ?_)
                | (with_reducible refine arm_load_g (by with_unfolding_all exact rfl) (by with_unfolding_all exact rfl) kC Try.underlying29 (by with_unfolding_all exact rfl) s_C ?_)
                )
            go_simp
            go_wp2_with (fail)
            with_reducible refine (HKN.out _).mono ?_
            rintro e wz ⟨rfl, hU⟩
            go_wp2_with (fail)
            go_ret
            exact ⟨rfl, hVy72.trans hU⟩
        | true =>
          have hlast := HI2.out (by simp) (by simp)
          subst hlast
          simp only [Bool.not_true] at hqN
          go_upto_region 16 with (first
              | (with_reducible refine arm_load (by with_unfolding_all exact rfl) kAB Try.underlying29 (by with_unfolding_all exact rfl) s_AB ?_)
              | (with_reducible refine arm_load_g (by with_unfolding_all exact rfl) (by with_unfolding_all exact rfl) kAB Try.underlying29 (by with_unfolding_all exact rfl) s_AB ?_)
              | (with_reducible refine arm_load (by with_unfolding_all exact rfl) kA Try.underlying29 (by with_unfolding_all exact rfl) s_A ?_)
              | (with_reducible refine arm_load_g (by with_unfolding_all exact rfl) (by with_unfolding_all exact rfl) kA Try.underlying29 (by with_unfolding_all exact rfl) s_A ?_)
              | (with_reducible refine arm_load (by with_unfolding_all exact rfl) kB Try.underlying29 (by with_unfolding_all exact rfl) s_B ?_)
              | (with_reducible refine arm_load_g (by with_unfolding_all exact rfl) (by with_unfolding_all exact rfl) kB Try.underlying29 (by with_unfolding_all exact rfl) s_B ?_)
              | (with_reducible refine arm_load (by with_unfolding_all exact rfl) kC Try.underlying29 (by with_unfolding_all exact rfl) s_C ?_)
              | (with_reducible refine arm_load_g (by with_unfolding_all exact rfl) (by with_unfolding_all exact rfl) kC Try.underlying29 (by with_unfolding_all exact rfl) s_C ?_)
              )
          go_simp
          go_wp2_with (first
              | (with_reducible refine arm_load (by with_unfolding_all exact rfl) kAB Try.underlying29 (by with_unfolding_all exact rfl) s_AB ?_)
              | (with_reducible refine arm_load_g (by with_unfolding_all exact rfl) (by with_unfolding_all exact rfl) kAB Try.underlying29 (by with_unfolding_all exact rfl) s_AB ?_)
              | (with_reducible refine arm_load (by with_unfolding_all exact rfl) kA Try.underlying29 (by with_unfolding_all exact rfl) s_A ?_)
              | (with_reducible refine arm_load_g (by with_unfolding_all exact rfl) (by with_unfolding_all exact rfl) kA Try.underlying29 (by with_unfolding_all exact rfl) s_A ?_)
              | (with_reducible refine arm_load (by with_unfolding_all exact rfl) kB Try.underlying29 (by with_unfolding_all exact rfl) s_B ?_)
              | (with_reducible refine arm_load_g (by with_unfolding_all exact rfl) (by with_unfolding_all exact rfl) kB Try.underlying29 (by with_unfolding_all exact rfl) s_B ?_)
              | (with_reducible refine arm_load (by with_unfolding_all exact rfl) kC Try.underlying29 (by with_unfolding_all exact rfl) s_C ?_)
              | (with_reducible refine arm_load_g (by with_unfolding_all exact rfl) (by with_unfolding_all exact rfl) kC Try.underlying29 (by with_unfolding_all exact rfl) s_C ?_)
              )
          with_reducible refine (HC7.out _).mono ?_
          rintro e y73 ⟨rfl, hU⟩
          have kA' := hU.heap kA (by simp)
          clear kA
          have kA := kA'
          clear kA'
          have kB' := hU.heap kB (by simp)
          clear kB
          have kB := kB'
          clear kB'
          have kC' := hU.heap kC (by simp)
          clear kC
          have kC := kC'
          clear kC'
          have kAB' := hU.heap kAB (by simp)
          clear kAB
          have kAB := kAB'
          clear kAB'
          have hVy73 := hVy63.trans hU
          clear hVy63 hU
          go_wp2_with (first
              | (with_reducible refine arm_load (by with_unfolding_all exact rfl) kAB Try.underlying29 (by with_unfolding_all exact rfl) s_AB ?_)
              | (with_reducible refine arm_load_g (by with_unfolding_all exact rfl) (by with_unfolding_all exact rfl) kAB Try.underlying29 (by with_unfolding_all exact rfl) s_AB ?_)
              | (with_reducible refine arm_load (by with_unfolding_all exact rfl) kA Try.underlying29 (by with_unfolding_all exact rfl) s_A ?_)
              | (with_reducible refine arm_load_g (by with_unfolding_all exact rfl) (by with_unfolding_all exact rfl) kA Try.underlying29 (by with_unfolding_all exact rfl) s_A ?_)
              | (with_reducible refine arm_load (by with_unfolding_all exact rfl) kB Try.underlying29 (by with_unfolding_all exact rfl) s_B ?_)
              | (with_reducible refine arm_load_g (by with_unfolding_all exact rfl) (by with_unfolding_all exact rfl) kB Try.underlying29 (by with_unfolding_all exact rfl) s_B ?_)
              | (with_reducible refine arm_load (by with_unfolding_all exact rfl) kC Try.underlying29 (by with_unfolding_all exact rfl) s_C ?_)
              | (with_reducible refine arm_load_g (by with_unfolding_all exact rfl) (by with_unfolding_all exact rfl) kC Try.underlying29 (by with_unfolding_all exact rfl) s_C ?_)
              )
          with_reducible refine (HC8.out _).mono ?_
          rintro e y74 ⟨rfl, hU⟩
          have kA' := hU.heap kA (by simp)
          clear kA
          have kA := kA'
          clear kA'
          have kB' := hU.heap kB (by simp)
          clear kB
          have kB := kB'
          clear kB'
          have kC' := hU.heap kC (by simp)
          clear kC
          have kC := kC'
          clear kC'
          have kAB' := hU.heap kAB (by simp)
          clear kAB
          have kAB := kAB'
          clear kAB'
          have hVy74 := hVy73.trans hU
          clear hVy73 hU
          cases c9 with
          | false =>
            go_upto_region 18 with (first
                | (with_reducible refine arm_load (by with_unfolding_all exact rfl) kAB Try.underlying29 (by with_unfolding_all exact rfl) s_AB ?_)
                | (with_reducible refine arm_load_g (by with_unfolding_all exact rfl) (by with_unfolding_all exact rfl) kAB Try.underlying29 (by with_unfolding_all exact rfl) s_AB ?_)
                | (with_reducible refine arm_load (by with_unfolding_all exact rfl) kA Try.underlying29 (by with_unfolding_all exact rfl) s_A ?_)
                | (with_reducible refine arm_load_g (by with_unfolding_all exact rfl) (by with_unfolding_all exact rfl) kA Try.underlying29 (by with_unfolding_all exact rfl) s_A ?_)
                | (with_reducible refine arm_load (by with_unfolding_all exact rfl) kB Try.underlying29 (by with_unfolding_all exact rfl) s_B ?_)
                | (with_reducible refine arm_load_g (by with_unfolding_all exact rfl) (by with_unfolding_all exact rfl) kB Try.underlying29 (by with_unfolding_all exact rfl) s_B ?_)
                | (with_reducible refine arm_load (by with_unfolding_all exact rfl) kC Try.underlying29 (by with_unfolding_all exact rfl) s_C ?_)
                | (with_reducible refine arm_load_g (by with_unfolding_all exact rfl) (by with_unfolding_all exact rfl) kC Try.underlying29 (by with_unfolding_all exact rfl) s_C ?_)
                )
            go_simp
            go_wp2_with (first
                | (with_reducible refine arm_load (by with_unfolding_all exact rfl) kAB Try.underlying29 (by with_unfolding_all exact rfl) s_AB ?_)
                | (with_reducible refine arm_load_g (by with_unfolding_all exact rfl) (by with_unfolding_all exact rfl) kAB Try.underlying29 (by with_unfolding_all exact rfl) s_AB ?_)
                | (with_reducible refine arm_load (by with_unfolding_all exact rfl) kA Try.underlying29 (by with_unfolding_all exact rfl) s_A ?_)
                | (with_reducible refine arm_load_g (by with_unfolding_all exact rfl) (by with_unfolding_all exact rfl) kA Try.underlying29 (by with_unfolding_all exact rfl) s_A ?_)
                | (with_reducible refine arm_load (by with_unfolding_all exact rfl) kB Try.underlying29 (by with_unfolding_all exact rfl) s_B ?_)
                | (with_reducible refine arm_load_g (by with_unfolding_all exact rfl) (by with_unfolding_all exact rfl) kB Try.underlying29 (by with_unfolding_all exact rfl) s_B ?_)
                | (with_reducible refine arm_load (by with_unfolding_all exact rfl) kC Try.underlying29 (by with_unfolding_all exact rfl) s_C ?_)
                | (with_reducible refine arm_load_g (by with_unfolding_all exact rfl) (by with_unfolding_all exact rfl) kC Try.underlying29 (by with_unfolding_all exact rfl) s_C ?_)
                )
            with_reducible refine (HC7.out _).mono ?_
            rintro e y75 ⟨rfl, hU⟩
            have kA' := hU.heap kA (by simp)
            clear kA
            have kA := kA'
            clear kA'
            have kB' := hU.heap kB (by simp)
            clear kB
            have kB := kB'
            clear kB'
            have kC' := hU.heap kC (by simp)
            clear kC
            have kC := kC'
            clear kC'
            have kAB' := hU.heap kAB (by simp)
            clear kAB
            have kAB := kAB'
            clear kAB'
            have hVy75 := hVy74.trans hU
            clear hVy74 hU
            go_wp2_with (first
                | (with_reducible refine arm_load (by with_unfolding_all exact rfl) kAB Try.underlying29 (by with_unfolding_all exact rfl) s_AB ?_)
                | (with_reducible refine arm_load_g (by with_unfolding_all exact rfl) (by with_unfolding_all exact rfl) kAB Try.underlying29 (by with_unfolding_all exact rfl) s_AB ?_)
                | (with_reducible refine arm_load (by with_unfolding_all exact rfl) kA Try.underlying29 (by with_unfolding_all exact rfl) s_A ?_)
                | (with_reducible refine arm_load_g (by with_unfolding_all exact rfl) (by with_unfolding_all exact rfl) kA Try.underlying29 (by with_unfolding_all exact rfl) s_A ?_)
                | (with_reducible refine arm_load (by with_unfolding_all exact rfl) kB Try.underlying29 (by with_unfolding_all exact rfl) s_B ?_)
                | (with_reducible refine arm_load_g (by with_unfolding_all exact rfl) (by with_unfolding_all exact rfl) kB Try.underlying29 (by with_unfolding_all exact rfl) s_B ?_)
                | (with_reducible refine arm_load (by with_unfolding_all exact rfl) kC Try.underlying29 (by with_unfolding_all exact rfl) s_C ?_)
                | (with_reducible refine arm_load_g (by with_unfolding_all exact rfl) (by with_unfolding_all exact rfl) kC Try.underlying29 (by with_unfolding_all exact rfl) s_C ?_)
                )
            with_reducible refine (HC9.out _).mono ?_
            rintro e y76 ⟨rfl, hU⟩
            have kA' := hU.heap kA (by simp)
            clear kA
            have kA := kA'
            clear kA'
            have kB' := hU.heap kB (by simp)
            clear kB
            have kB := kB'
            clear kB'
            have kC' := hU.heap kC (by simp)
            clear kC
            have kC := kC'
            clear kC'
            have kAB' := hU.heap kAB (by simp)
            clear kAB
            have kAB := kAB'
            clear kAB'
            have hVy76 := hVy75.trans hU
            clear hVy75 hU
            go_upto_region 20 with (first
                | (with_reducible refine arm_load (by with_unfolding_all exact rfl) kAB Try.underlying29 (by with_unfolding_all exact rfl) s_AB ?_)
                | (with_reducible refine arm_load_g (by with_unfolding_all exact rfl) (by with_unfolding_all exact rfl) kAB Try.underlying29 (by with_unfolding_all exact rfl) s_AB ?_)
                | (with_reducible refine arm_load (by with_unfolding_all exact rfl) kA Try.underlying29 (by with_unfolding_all exact rfl) s_A ?_)
                | (with_reducible refine arm_load_g (by with_unfolding_all exact rfl) (by with_unfolding_all exact rfl) kA Try.underlying29 (by with_unfolding_all exact rfl) s_A ?_)
                | (with_reducible refine arm_load (by with_unfolding_all exact rfl) kB Try.underlying29 (by with_unfolding_all exact rfl) s_B ?_)
                | (with_reducible refine arm_load_g (by with_unfolding_all exact rfl) (by with_unfolding_all exact rfl) kB Try.underlying29 (by with_unfolding_all exact rfl) s_B ?_)
                | (with_reducible refine arm_load (by with_unfolding_all exact rfl) kC Try.underlying29 (by with_unfolding_all exact rfl) s_C ?_)
                | (with_reducible refine arm_load_g (by with_unfolding_all exact rfl) (by with_unfolding_all exact rfl) kC Try.underlying29 (by with_unfolding_all exact rfl) s_C ?_)
                )
            go_simp
            go_wp2_with (fail)
            with_reducible refine (HKN.out _).mono ?_
            rintro e wz ⟨rfl, hU⟩
            go_wp2_with (fail)
            go_ret
            exact ⟨rfl, hVy76.trans hU⟩
          | true =>
            have hlast := HI3.out (by simp) (by simp)
            subst hlast
            go_upto_region 18 with (first
                | (with_reducible refine arm_load (by with_unfolding_all exact rfl) kAB Try.underlying29 (by with_unfolding_all exact rfl) s_AB ?_)
                | (with_reducible refine arm_load_g (by with_unfolding_all exact rfl) (by with_unfolding_all exact rfl) kAB Try.underlying29 (by with_unfolding_all exact rfl) s_AB ?_)
                | (with_reducible refine arm_load (by with_unfolding_all exact rfl) kA Try.underlying29 (by with_unfolding_all exact rfl) s_A ?_)
                | (with_reducible refine arm_load_g (by with_unfolding_all exact rfl) (by with_unfolding_all exact rfl) kA Try.underlying29 (by with_unfolding_all exact rfl) s_A ?_)
                | (with_reducible refine arm_load (by with_unfolding_all exact rfl) kB Try.underlying29 (by with_unfolding_all exact rfl) s_B ?_)
                | (with_reducible refine arm_load_g (by with_unfolding_all exact rfl) (by with_unfolding_all exact rfl) kB Try.underlying29 (by with_unfolding_all exact rfl) s_B ?_)
                | (with_reducible refine arm_load (by with_unfolding_all exact rfl) kC Try.underlying29 (by with_unfolding_all exact rfl) s_C ?_)
                | (with_reducible refine arm_load_g (by with_unfolding_all exact rfl) (by with_unfolding_all exact rfl) kC Try.underlying29 (by with_unfolding_all exact rfl) s_C ?_)
                )
            go_simp
            go_wp2_with (first
                | (with_reducible refine arm_load (by with_unfolding_all exact rfl) kAB Try.underlying29 (by with_unfolding_all exact rfl) s_AB ?_)
                | (with_reducible refine arm_load_g (by with_unfolding_all exact rfl) (by with_unfolding_all exact rfl) kAB Try.underlying29 (by with_unfolding_all exact rfl) s_AB ?_)
                | (with_reducible refine arm_load (by with_unfolding_all exact rfl) kA Try.underlying29 (by with_unfolding_all exact rfl) s_A ?_)
                | (with_reducible refine arm_load_g (by with_unfolding_all exact rfl) (by with_unfolding_all exact rfl) kA Try.underlying29 (by with_unfolding_all exact rfl) s_A ?_)
                | (with_reducible refine arm_load (by with_unfolding_all exact rfl) kB Try.underlying29 (by with_unfolding_all exact rfl) s_B ?_)
                | (with_reducible refine arm_load_g (by with_unfolding_all exact rfl) (by with_unfolding_all exact rfl) kB Try.underlying29 (by with_unfolding_all exact rfl) s_B ?_)
                | (with_reducible refine arm_load (by with_unfolding_all exact rfl) kC Try.underlying29 (by with_unfolding_all exact rfl) s_C ?_)
                | (with_reducible refine arm_load_g (by with_unfolding_all exact rfl) (by with_unfolding_all exact rfl) kC Try.underlying29 (by with_unfolding_all exact rfl) s_C ?_)
                )
            with_reducible refine (HC7.out _).mono ?_
            rintro e y77 ⟨rfl, hU⟩
            have kA' := hU.heap kA (by simp)
            clear kA
            have kA := kA'
            clear kA'
            have kB' := hU.heap kB (by simp)
            clear kB
            have kB := kB'
            clear kB'
            have kC' := hU.heap kC (by simp)
            clear kC
            have kC := kC'
            clear kC'
            have kAB' := hU.heap kAB (by simp)
            clear kAB
            have kAB := kAB'
            clear kAB'
            have hVy77 := hVy74.trans hU
            clear hVy74 hU
            go_wp2_with (first
                | (with_reducible refine arm_load (by with_unfolding_all exact rfl) kAB Try.underlying29 (by with_unfolding_all exact rfl) s_AB ?_)
                | (with_reducible refine arm_load_g (by with_unfolding_all exact rfl) (by with_unfolding_all exact rfl) kAB Try.underlying29 (by with_unfolding_all exact rfl) s_AB ?_)
                | (with_reducible refine arm_load (by with_unfolding_all exact rfl) kA Try.underlying29 (by with_unfolding_all exact rfl) s_A ?_)
                | (with_reducible refine arm_load_g (by with_unfolding_all exact rfl) (by with_unfolding_all exact rfl) kA Try.underlying29 (by with_unfolding_all exact rfl) s_A ?_)
                | (with_reducible refine arm_load (by with_unfolding_all exact rfl) kB Try.underlying29 (by with_unfolding_all exact rfl) s_B ?_)
                | (with_reducible refine arm_load_g (by with_unfolding_all exact rfl) (by with_unfolding_all exact rfl) kB Try.underlying29 (by with_unfolding_all exact rfl) s_B ?_)
                | (with_reducible refine arm_load (by with_unfolding_all exact rfl) kC Try.underlying29 (by with_unfolding_all exact rfl) s_C ?_)
                | (with_reducible refine arm_load_g (by with_unfolding_all exact rfl) (by with_unfolding_all exact rfl) kC Try.underlying29 (by with_unfolding_all exact rfl) s_C ?_)
                )
            with_reducible refine (HC9.out _).mono ?_
            rintro e y78 ⟨rfl, hU⟩
            have kA' := hU.heap kA (by simp)
            clear kA
            have kA := kA'
            clear kA'
            have kB' := hU.heap kB (by simp)
            clear kB
            have kB := kB'
            clear kB'
            have kC' := hU.heap kC (by simp)
            clear kC
            have kC := kC'
            clear kC'
            have kAB' := hU.heap kAB (by simp)
            clear kAB
            have kAB := kAB'
            clear kAB'
            have hVy78 := hVy77.trans hU
            clear hVy77 hU
            go_wp2_with (first
                | (with_reducible refine arm_load (by with_unfolding_all exact rfl) kAB Try.underlying29 (by with_unfolding_all exact rfl) s_AB ?_)
                | (with_reducible refine arm_load_g (by with_unfolding_all exact rfl) (by with_unfolding_all exact rfl) kAB Try.underlying29 (by with_unfolding_all exact rfl) s_AB ?_)
                | (with_reducible refine arm_load (by with_unfolding_all exact rfl) kA Try.underlying29 (by with_unfolding_all exact rfl) s_A ?_)
                | (with_reducible refine arm_load_g (by with_unfolding_all exact rfl) (by with_unfolding_all exact rfl) kA Try.underlying29 (by with_unfolding_all exact rfl) s_A ?_)
                | (with_reducible refine arm_load (by with_unfolding_all exact rfl) kB Try.underlying29 (by with_unfolding_all exact rfl) s_B ?_)
                | (with_reducible refine arm_load_g (by with_unfolding_all exact rfl) (by with_unfolding_all exact rfl) kB Try.underlying29 (by with_unfolding_all exact rfl) s_B ?_)
                | (with_reducible refine arm_load (by with_unfolding_all exact rfl) kC Try.underlying29 (by with_unfolding_all exact rfl) s_C ?_)
                | (with_reducible refine arm_load_g (by with_unfolding_all exact rfl) (by with_unfolding_all exact rfl) kC Try.underlying29 (by with_unfolding_all exact rfl) s_C ?_)
                )
            with_reducible refine (HC0.out _).mono ?_
            rintro e y79 ⟨rfl, hU⟩
            have kA' := hU.heap kA (by simp)
            clear kA
            have kA := kA'
            clear kA'
            have kB' := hU.heap kB (by simp)
            clear kB
            have kB := kB'
            clear kB'
            have kC' := hU.heap kC (by simp)
            clear kC
            have kC := kC'
            clear kC'
            have kAB' := hU.heap kAB (by simp)
            clear kAB
            have kAB := kAB'
            clear kAB'
            have hVy79 := hVy78.trans hU
            clear hVy78 hU
            go_upto_region 20 with (first
                | (with_reducible refine arm_load (by with_unfolding_all exact rfl) kAB Try.underlying29 (by with_unfolding_all exact rfl) s_AB ?_)
                | (with_reducible refine arm_load_g (by with_unfolding_all exact rfl) (by with_unfolding_all exact rfl) kAB Try.underlying29 (by with_unfolding_all exact rfl) s_AB ?_)
                | (with_reducible refine arm_load (by with_unfolding_all exact rfl) kA Try.underlying29 (by with_unfolding_all exact rfl) s_A ?_)
                | (with_reducible refine arm_load_g (by with_unfolding_all exact rfl) (by with_unfolding_all exact rfl) kA Try.underlying29 (by with_unfolding_all exact rfl) s_A ?_)
                | (with_reducible refine arm_load (by with_unfolding_all exact rfl) kB Try.underlying29 (by with_unfolding_all exact rfl) s_B ?_)
                | (with_reducible refine arm_load_g (by with_unfolding_all exact rfl) (by with_unfolding_all exact rfl) kB Try.underlying29 (by with_unfolding_all exact rfl) s_B ?_)
                | (with_reducible refine arm_load (by with_unfolding_all exact rfl) kC Try.underlying29 (by with_unfolding_all exact rfl) s_C ?_)
                | (with_reducible refine arm_load_g (by with_unfolding_all exact rfl) (by with_unfolding_all exact rfl) kC Try.underlying29 (by with_unfolding_all exact rfl) s_C ?_)
                )
            go_simp
            go_wp2_with (fail)
            with_reducible refine (HKN.out _).mono ?_
            rintro e wz ⟨rfl, hU⟩
            go_wp2_with (fail)
            go_ret
            exact ⟨rfl, hVy79.trans hU⟩
end Go.Proofs.Ytjoliagnhmfdiaa
