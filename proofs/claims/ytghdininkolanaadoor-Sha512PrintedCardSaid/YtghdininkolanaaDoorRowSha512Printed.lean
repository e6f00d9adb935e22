/-
  Sha512Printed: The hashes of two texts as the standard prints them; the row, and its tied card. No condition.
-/
import Derived.Test.YtghdininkolanaaDoorLawPrinted512b
import Derived.Test.YtghdininkolanaaDoorOpen
import Derived.Test.YtghdininkolanaaDoorCards
import Derived.Test.YtghdininkolanaaDoorTie
import Derived.Stop.Joined
import Derived.SevenTiedAt
import Derived.ProofKit
import Derived.OpenShut
import Derived.ShutString
import Derived.ChangeOld
import Derived.Below
namespace Go.Proofs.YtghdininkolanaaDoor
open Go Go.ChangeShapes Go.WideShapes Go.ChangeAt Go.RowKit
namespace rowSha512Printed
theorem own : ownKnob Tryd.prog.godebug = none := by kernel_rfl
theorem laidOut : laidOutB Tryd.prog = true := by kernel_rfl
theorem g0 : Tryd.prog.globalNamed "farebox/sha512.table" = some 5 := by kernel_rfl
theorem t0 : (Tryd.prog.globals[5]?).map (·.type) = some 81 := by kernel_rfl
theorem cs0 : Tryd.prog.cellsOf 81 = 80 := by kernel_rfl
theorem ce0 : Tryd.prog.cellsOf 49 = 1 := by kernel_rfl
theorem datum0 {H : Type} : (Rows.laid_farebox_sha512_table : DataW H) = .agg ((K512.map fun x => (x.toNat : Int)).map fun i => .lit (.int .u64 i)) := rfl
theorem g1 : Tryd.prog.globalNamed "farebox/sha512.first" = some 2 := by kernel_rfl
theorem t1 : (Tryd.prog.globals[2]?).map (·.type) = some 66 := by kernel_rfl
theorem cs1 : Tryd.prog.cellsOf 66 = 8 := by kernel_rfl
theorem ce1 : Tryd.prog.cellsOf 49 = 1 := by kernel_rfl
theorem datum1 {H : Type} : (Rows.laid_farebox_sha512_first : DataW H) = .agg ((first512.list.map fun x => (x.toNat : Int)).map fun i => .lit (.int .u64 i)) := rfl
theorem of_laid {W : World} (h : laidMetH Tryd.prog Rows.sha512PrintedRow.laid W) : (∃ T fr, W.heap[5]? = some (.cells (K512.map U64).toArray T fr)) ∧ (∃ T fr, W.heap[2]? = some (.cells (first512.list.map U64).toArray T fr)) := by
  rw [MakeChecks.laidMetH_plain _ _ _ (by kernel_rfl)] at h
  obtain ⟨ps, ⟨g0_, t0_, cs0_, f0_, p0_, q0_, hg0, ht0, hv0, hd0, ⟨g1_, t1_, cs1_, f1_, p1_, q1_, hg1, ht1, hv1, hd1, _⟩, _⟩, _, _⟩ := h
  obtain rfl := Option.some.inj (g0.symm.trans hg0)
  obtain rfl := Option.some.inj (t0.symm.trans ht0)
  rw [datum0] at hd0
  have z0 := laid_words g0 hv0 Tryd.underlying81 Tryd.underlying49 ce0 cs0 hd0
  rw [List.map_map] at z0
  obtain rfl := Option.some.inj (g1.symm.trans hg1)
  obtain rfl := Option.some.inj (t1.symm.trans ht1)
  rw [datum1] at hd1
  have z1 := laid_words g1 hv1 Tryd.underlying66 Tryd.underlying49 ce1 cs1 hd1
  rw [List.map_map] at z1
  exact ⟨z0, z1⟩
theorem door_met (os : Os) (args : Array Value) : laidMetH Tryd.prog Rows.sha512PrintedRow.laid ((World.doorLaid Tryd.prog 400 os).forCall (fun _ _ => 0) ⟨#[], args, []⟩).memory :=
  laidMetH_of_parts3 (fuel := 8) (laidMet_of_run' 8 (by kernel_rfl) (by kernel_rfl)) (by kernel_rfl) (by kernel_rfl)
set_option maxRecDepth 100000 in
theorem lifted (os : Os) (started : os.Started) (H : Type) (enc : TypeId × Value → H) :
    ReturnsInHanded {} Tryd.checked os 5 .any (fun w args => (Rows.sha512PrintedSpec.pre enc Tryd.prog Tryd.f5 [] false w args ∧ laidMetH Tryd.prog Rows.sha512PrintedRow.laid w) ∧ sizedMet enc Tryd.prog Tryd.f5 (OpenSpec.ofChange Rows.sha512PrintedSpec) false w args) (Rows.sha512PrintedSpec.post enc Tryd.prog Tryd.f5 false true false false) := by
  refine returnsInHanded_of_change_and (C := Tryd.checked) (X := fun w _ => laidMetH Tryd.prog Rows.sha512PrintedRow.laid w) (fun _ _ _ hh h => h.of_heap hh) own started (by kernel_rfl) Tryd.func5
    (ChangeSpec.witness_shaped (enc := enc) (C := Tryd.checked) (os := os) (X := fun w _ => laidMetH Tryd.prog Rows.sha512PrintedRow.laid w) false (World.doorLaid Tryd.prog 400 os) #[] 8 rfl (World.shaped_of_RefB (by kernel_rfl) (by kernel_rfl)) (by kernel_rfl) (by kernel_rfl) (by kernel_rfl) (door_met os _)) ?_
  intro W base args ds gs before hval0 hW _ hsz0 hL _
  have hLL := of_laid hL
  have hval : ∀ (j : Nat) t v, Tryd.f5.params[j]? = some t → args[j]? = some v → Value.okWide Tryd.prog W .any base t v := hval0
  have hW' := hW
  obtain ⟨p, q, hA0, hV, rfl, hfz, hnd⟩ := hW
  have hA : DataW.TrodAll enc Tryd.prog W 0 (fun _ => true) true Tryd.f5.params.toList args.toList ds p := hA0
  have hsz : (DataW.weightsEach Tryd.prog (Tryd.f5.params.toList ++ Rows.sha512PrintedSpec.plain.varTypes Tryd.prog) (ds ++ gs)).all (· ≤ reachBytes) = true := hsz0
  rw [Tryd.params5] at hA hval hsz
  obtain ⟨rfl, rfl, rfl⟩ := trodAll_none hA
  obtain ⟨rfl, rfl⟩ := trodVars_none hV
  obtain ⟨Q0, Q1⟩ := hLL
  clear hA0 hval0 hsz0
  refine (law_printed512 W Q0 Q1).mono fun e W' ⟨he, hu⟩ => ?_
  subst he
  have bel := hu.below
  exact ⟨_, rfl, _, _, _, [], _, [], hW', trodAll_mk1 (shut_bool Tryd.underlying4 _), trodAll_mk0, rfl, bel.frame _, fun h => by cases h⟩
theorem over : Rows.sha512PrintedRow.holds Tryd.pinned (OpenSpec.ofChange Rows.sha512PrintedSpec) :=
  OpenClaim.holds_of_wide 5 Tryd.f5 rfl rfl rfl rfl rfl rfl rfl ⟨rfl, rfl, rfl, rfl, rfl⟩ rfl rfl rfl rfl rfl (by kernel_rfl) Tryd.func5 (by kernel_rfl)
    (of_decide_eq_true (by kernel_rfl)) (by unfold Func.isWrapper; first | (rw [if_pos (by decide +kernel)]; kernel_rfl) | (rw [if_neg (by decide +kernel)]; exact ⟨rfl, rfl⟩))
    (fun os started H enc _ => lifted os started H enc)
theorem card : Rows.Sha512PrintedCardSaid :=
  Claim7.holds_tied_plain_at .later [] [.data, .data] true (true, "166fbd986854d016d8c401f1260de1bd2dec9460acf100ecd35098851f4a5d07") false
    over (fun _ h => by cases h) (by kernel_rfl) (fun _ h => by cases h) sha512Printed_row_tie rfl ⟨rfl, rfl⟩ (by kernel_rfl) rfl
    (fun f fn hf hfn => by
      obtain rfl : f = 5 := Option.some.inj ((show Tryd.prog.funcNamed "farebox/fareboxlaw03.Sha512Printed" = some 5 by kernel_rfl).symm.trans hf) |>.symm
      obtain rfl : fn = Tryd.f5 := (Option.some.inj (Tryd.func5.symm.trans hfn)).symm
      exact ⟨by kernel_rfl, fun j t ht => by
        rw [Tryd.params5] at ht
        simp at ht⟩)
    (by kernel_rfl)
end rowSha512Printed
theorem sha512Printed_holds : Rows.Sha512PrintedCardSaid := rowSha512Printed.card
#print axioms sha512Printed_holds
end Go.Proofs.YtghdininkolanaaDoor
