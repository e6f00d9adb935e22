/-
  Sha512Digests: Four digests, written to, summed, cloned and reset in any order; the row, and its tied card. No condition.
-/
import Derived.Test.YtghdininkolanaaDoorLawDigests512
import Derived.Test.YtghdininkolanaaDoorOpenQps
import Derived.Test.YtghdininkolanaaDoorOpen
import Derived.Test.YtghdininkolanaaDoorCards
import Derived.Test.YtghdininkolanaaDoorTie
import Derived.Stop.Joined
import Derived.SevenTiedAt
import Derived.ProofKit
import Derived.OpenShut
import Derived.ShutString
import Derived.ChangeOld
import Derived.Below
namespace Go.Proofs.YtghdininkolanaaDoor
open Go Go.ChangeShapes Go.WideShapes Go.ChangeAt Go.RowKit
namespace rowSha512Digests
theorem own : ownKnob Tryd.prog.godebug = none := by kernel_rfl
theorem laidOut : laidOutB Tryd.prog = true := by kernel_rfl
theorem g0 : Tryd.prog.globalNamed "farebox/fareboxref03.K" = some 3 := by kernel_rfl
theorem t0 : (Tryd.prog.globals[3]?).map (·.type) = some 81 := by kernel_rfl
theorem cs0 : Tryd.prog.cellsOf 81 = 80 := by kernel_rfl
theorem ce0 : Tryd.prog.cellsOf 49 = 1 := by kernel_rfl
theorem datum0 {H : Type} : (Rows.laid_farebox_fareboxref03_K : DataW H) = .agg ((K512.map fun x => (x.toNat : Int)).map fun i => .lit (.int .u64 i)) := rfl
theorem g1 : Tryd.prog.globalNamed "farebox/fareboxref03.First" = some 1 := by kernel_rfl
theorem t1 : (Tryd.prog.globals[1]?).map (·.type) = some 66 := by kernel_rfl
theorem cs1 : Tryd.prog.cellsOf 66 = 8 := by kernel_rfl
theorem ce1 : Tryd.prog.cellsOf 49 = 1 := by kernel_rfl
theorem datum1 {H : Type} : (Rows.laid_farebox_fareboxref03_First : DataW H) = .agg ((first512.list.map fun x => (x.toNat : Int)).map fun i => .lit (.int .u64 i)) := rfl
theorem g2 : Tryd.prog.globalNamed "farebox/sha512.table" = some 5 := by kernel_rfl
theorem t2 : (Tryd.prog.globals[5]?).map (·.type) = some 81 := by kernel_rfl
theorem cs2 : Tryd.prog.cellsOf 81 = 80 := by kernel_rfl
theorem ce2 : Tryd.prog.cellsOf 49 = 1 := by kernel_rfl
theorem datum2 {H : Type} : (Rows.laid_farebox_sha512_table : DataW H) = .agg ((K512.map fun x => (x.toNat : Int)).map fun i => .lit (.int .u64 i)) := rfl
theorem g3 : Tryd.prog.globalNamed "farebox/sha512.first" = some 2 := by kernel_rfl
theorem t3 : (Tryd.prog.globals[2]?).map (·.type) = some 66 := by kernel_rfl
theorem cs3 : Tryd.prog.cellsOf 66 = 8 := by kernel_rfl
theorem ce3 : Tryd.prog.cellsOf 49 = 1 := by kernel_rfl
theorem datum3 {H : Type} : (Rows.laid_farebox_sha512_first : DataW H) = .agg ((first512.list.map fun x => (x.toNat : Int)).map fun i => .lit (.int .u64 i)) := rfl
theorem of_laid {W : World} (h : laidMetH Tryd.prog Rows.sha512DigestsRow.laid W) : (∃ T fr, W.heap[3]? = some (.cells (K512.map U64).toArray T fr)) ∧ (∃ T fr, W.heap[1]? = some (.cells (first512.list.map U64).toArray T fr)) ∧ (∃ T fr, W.heap[5]? = some (.cells (K512.map U64).toArray T fr)) ∧ (∃ T fr, W.heap[2]? = some (.cells (first512.list.map U64).toArray T fr)) := by
  rw [MakeChecks.laidMetH_plain _ _ _ (by kernel_rfl)] at h
  obtain ⟨ps, ⟨g0_, t0_, cs0_, f0_, p0_, q0_, hg0, ht0, hv0, hd0, ⟨g1_, t1_, cs1_, f1_, p1_, q1_, hg1, ht1, hv1, hd1, ⟨g2_, t2_, cs2_, f2_, p2_, q2_, hg2, ht2, hv2, hd2, ⟨g3_, t3_, cs3_, f3_, p3_, q3_, hg3, ht3, hv3, hd3, _⟩, _⟩, _⟩, _⟩, _, _⟩ := h
  obtain rfl := Option.some.inj (g0.symm.trans hg0)
  obtain rfl := Option.some.inj (t0.symm.trans ht0)
  rw [datum0] at hd0
  have z0 := laid_words g0 hv0 Tryd.underlying81 Tryd.underlying49 ce0 cs0 hd0
  rw [List.map_map] at z0
  obtain rfl := Option.some.inj (g1.symm.trans hg1)
  obtain rfl := Option.some.inj (t1.symm.trans ht1)
  rw [datum1] at hd1
  have z1 := laid_words g1 hv1 Tryd.underlying66 Tryd.underlying49 ce1 cs1 hd1
  rw [List.map_map] at z1
  obtain rfl := Option.some.inj (g2.symm.trans hg2)
  obtain rfl := Option.some.inj (t2.symm.trans ht2)
  rw [datum2] at hd2
  have z2 := laid_words g2 hv2 Tryd.underlying81 Tryd.underlying49 ce2 cs2 hd2
  rw [List.map_map] at z2
  obtain rfl := Option.some.inj (g3.symm.trans hg3)
  obtain rfl := Option.some.inj (t3.symm.trans ht3)
  rw [datum3] at hd3
  have z3 := laid_words g3 hv3 Tryd.underlying66 Tryd.underlying49 ce3 cs3 hd3
  rw [List.map_map] at z3
  exact ⟨z0, z1, z2, z3⟩
theorem door_met (os : Os) (args : Array Value) : laidMetH Tryd.prog Rows.sha512DigestsRow.laid ((World.doorLaid Tryd.prog 400 os).forCall (fun _ _ => 0) ⟨#[], args, []⟩).memory :=
  laidMetH_of_parts3 (fuel := 8) (laidMet_of_run' 8 (by kernel_rfl) (by kernel_rfl)) (by kernel_rfl) (by kernel_rfl)
set_option maxRecDepth 100000 in
theorem lifted (os : Os) (started : os.Started) (H : Type) (enc : TypeId × Value → H) :
    ReturnsInHanded {} Tryd.checked os 4 .any (fun w args => (Rows.sha512DigestsSpec.pre enc Tryd.prog Tryd.f4 [] false w args ∧ laidMetH Tryd.prog Rows.sha512DigestsRow.laid w) ∧ sizedMet enc Tryd.prog Tryd.f4 (OpenSpec.ofChange Rows.sha512DigestsSpec) false w args) (Rows.sha512DigestsSpec.post enc Tryd.prog Tryd.f4 false true false false) := by
  refine returnsInHanded_of_change_and (C := Tryd.checked) (X := fun w _ => laidMetH Tryd.prog Rows.sha512DigestsRow.laid w) (fun _ _ _ hh h => h.of_heap hh) own started (by kernel_rfl) Tryd.func4
    (ChangeSpec.witness_shaped (enc := enc) (C := Tryd.checked) (os := os) (X := fun w _ => laidMetH Tryd.prog Rows.sha512DigestsRow.laid w) false (World.doorLaid Tryd.prog 400 os) #[.slice none 0 0] 8 rfl (World.shaped_of_RefB (by kernel_rfl) (by kernel_rfl)) (by kernel_rfl) (by kernel_rfl) (by kernel_rfl) (door_met os _)) ?_
  intro W base args ds gs before hval0 hW _ hsz0 hL _
  have hLL := of_laid hL
  have hval : ∀ (j : Nat) t v, Tryd.f4.params[j]? = some t → args[j]? = some v → Value.okWide Tryd.prog W .any base t v := hval0
  have hW' := hW
  obtain ⟨p, q, hA0, hV, rfl, hfz, hnd⟩ := hW
  have hA : DataW.TrodAll enc Tryd.prog W 0 (fun _ => true) true Tryd.f4.params.toList args.toList ds p := hA0
  have hsz : (DataW.weightsEach Tryd.prog (Tryd.f4.params.toList ++ Rows.sha512DigestsSpec.plain.varTypes Tryd.prog) (ds ++ gs)).all (· ≤ reachBytes) = true := hsz0
  rw [Tryd.params4] at hA hval hsz
  obtain ⟨v0, vs0, d0, ds0, p0, q0, hargs, rfl, rfl, h0, r0⟩ := trodAll_cons hA
  obtain ⟨rfl, rfl, rfl⟩ := trodAll_nil r0
  obtain rfl : args = #[v0] := by cases args; simp_all
  obtain ⟨rfl, rfl⟩ := trodVars_none hV
  have k0 := h0
  have lt0 : ∀ x ∈ p0, x.block < W.heap.size := by obtain ⟨m, hm⟩ := k0; exact DataW.trod_lt m _ _ _ hm
  obtain ⟨l0, R0, N0⟩ := open_qops Tryd.underlying35 Tryd.underlying42 rfl rfl rfl rfl rfl rfl rfl rfl Tryd.underlying3 (by kernel_rfl) Tryd.underlying5 (by kernel_rfl) (by kernel_rfl) Tryd.underlying25 (by kernel_rfl) (by kernel_rfl) hsz 0 rfl rfl (hval 0 35 v0 rfl rfl) h0
  obtain ⟨Q0, Q1, Q2, Q3⟩ := hLL
  clear hA0 hval0 hsz0
  refine (law_digests512 W v0 l0 R0 N0 Q2 Q3 Q0 Q1).mono fun e W' ⟨he, hu⟩ => ?_
  subst he
  have bel := hu.below
  exact ⟨_, rfl, _, _, _, [], _, [], hW', trodAll_mk1 (shut_bool Tryd.underlying4 _), (trodAll_cons_mk (Below.trod laidOut (by kernel_rfl) (of_decide_eq_true (by kernel_rfl)) k0 bel lt0) trodAll_mk0), rfl, bel.frame _, fun h => by cases h⟩
theorem over : Rows.sha512DigestsRow.holds Tryd.pinned (OpenSpec.ofChange Rows.sha512DigestsSpec) :=
  OpenClaim.holds_of_wide 4 Tryd.f4 rfl rfl rfl rfl rfl rfl rfl ⟨rfl, rfl, rfl, rfl, rfl⟩ rfl rfl rfl rfl rfl (by kernel_rfl) Tryd.func4 (by kernel_rfl)
    (of_decide_eq_true (by kernel_rfl)) (by unfold Func.isWrapper; first | (rw [if_pos (by decide +kernel)]; kernel_rfl) | (rw [if_neg (by decide +kernel)]; exact ⟨rfl, rfl⟩))
    (fun os started H enc _ => lifted os started H enc)
theorem card : Rows.Sha512DigestsCardSaid :=
  Claim7.holds_tied_plain_at .later [] [.data, .data, .data, .data] true (true, "166fbd986854d016d8c401f1260de1bd2dec9460acf100ecd35098851f4a5d07") false
    over (fun _ h => by cases h) (by kernel_rfl) (fun _ h => by cases h) sha512Digests_row_tie rfl ⟨rfl, rfl⟩ (by kernel_rfl) rfl
    (fun f fn hf hfn => by
      obtain rfl : f = 4 := Option.some.inj ((show Tryd.prog.funcNamed "farebox/fareboxlaw03.Sha512Digests" = some 4 by kernel_rfl).symm.trans hf) |>.symm
      obtain rfl : fn = Tryd.f4 := (Option.some.inj (Tryd.func4.symm.trans hfn)).symm
      exact ⟨by kernel_rfl, fun j t ht => by
        rw [Tryd.params4] at ht
        have hm : t ∈ [35] := by simpa using Array.mem_of_getElem? ht
        have hall : ([35].all fun u => !Tryd.prog.wantsStandIn u) = true := by kernel_rfl
        exact (show Tryd.prog.wantsStandIn t = false by simpa using List.all_eq_true.1 hall t hm)⟩)
    (by kernel_rfl)
end rowSha512Digests
theorem sha512Digests_holds : Rows.Sha512DigestsCardSaid := rowSha512Digests.card
#print axioms sha512Digests_holds
end Go.Proofs.YtghdininkolanaaDoor
