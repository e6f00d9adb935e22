/-
  ChainWalks: Every Next of every walker; the row, and its tied card. No condition.
-/
import Derived.Test.YtaphbkkklapdaaaDoorLawWalks15
import Derived.Test.YtaphbkkklapdaaaDoorGl256
import Derived.Test.YtaphbkkklapdaaaDoorOpen
import Derived.Test.YtaphbkkklapdaaaDoorCards
import Derived.Test.YtaphbkkklapdaaaDoorTie
import Derived.Stop.Joined
import Derived.SevenTiedAt
import Derived.ProofKit
import Derived.OpenShut
import Derived.ShutString
import Derived.ChangeOld
import Derived.Below
namespace Go.Proofs.YtaphbkkklapdaaaDoor
open Go Go.ChangeShapes Go.WideShapes Go.ChangeAt Go.RowKit
namespace rowChainWalks
theorem own : ownKnob Tryd.prog.godebug = none := by kernel_rfl
theorem laidOut : laidOutB Tryd.prog = true := by kernel_rfl
theorem cells_uint8 : Tryd.prog.cellsOf 5 = 1 := by kernel_rfl
theorem cells_32_uint8 : Tryd.prog.cellsOf 23 = 32 := by kernel_rfl
theorem g0 : Tryd.prog.globalNamed "farebox/sha256.first" = some 0 := by kernel_rfl
theorem t0 : (Tryd.prog.globals[0]?).map (·.type) = some 54 := by kernel_rfl
theorem cs0 : Tryd.prog.cellsOf 54 = 8 := by kernel_rfl
theorem ce0 : Tryd.prog.cellsOf 53 = 1 := by kernel_rfl
theorem datum0 {H : Type} : (Rows.laid_farebox_sha256_first : DataW H) = .agg ((first256.list.map fun x => (x.toNat : Int)).map fun i => .lit (.int .u32 i)) := rfl
theorem g1 : Tryd.prog.globalNamed "farebox/sha256.constants" = some 1 := by kernel_rfl
theorem t1 : (Tryd.prog.globals[1]?).map (·.type) = some 64 := by kernel_rfl
theorem cs1 : Tryd.prog.cellsOf 64 = 64 := by kernel_rfl
theorem ce1 : Tryd.prog.cellsOf 53 = 1 := by kernel_rfl
theorem datum1 {H : Type} : (Rows.laid_farebox_sha256_constants : DataW H) = .agg ((K256.map fun x => (x.toNat : Int)).map fun i => .lit (.int .u32 i)) := rfl
theorem of_laid {W : World} (h : laidMetH Tryd.prog Rows.chainWalksRow.laid W) : (∃ T fr, W.heap[0]? = some (.cells (first256.list.map U32).toArray T fr)) ∧ (∃ T fr, W.heap[1]? = some (.cells (K256.map U32).toArray T fr)) := by
  rw [MakeChecks.laidMetH_plain _ _ _ (by kernel_rfl)] at h
  obtain ⟨ps, ⟨g0_, t0_, cs0_, f0_, p0_, q0_, hg0, ht0, hv0, hd0, ⟨g1_, t1_, cs1_, f1_, p1_, q1_, hg1, ht1, hv1, hd1, _⟩, _⟩, _, _⟩ := h
  obtain rfl := Option.some.inj (g0.symm.trans hg0)
  obtain rfl := Option.some.inj (t0.symm.trans ht0)
  rw [datum0] at hd0
  have z0 := laid_words g0 hv0 Tryd.underlying54 Tryd.underlying53 ce0 cs0 hd0
  rw [List.map_map] at z0
  obtain rfl := Option.some.inj (g1.symm.trans hg1)
  obtain rfl := Option.some.inj (t1.symm.trans ht1)
  rw [datum1] at hd1
  have z1 := laid_words g1 hv1 Tryd.underlying64 Tryd.underlying53 ce1 cs1 hd1
  rw [List.map_map] at z1
  exact ⟨z0, z1⟩
theorem door_met (os : Os) (args : Array Value) : laidMetH Tryd.prog Rows.chainWalksRow.laid ((World.doorLaid Tryd.prog 400 os).forCall (fun _ _ => 0) ⟨#[], args, []⟩).memory :=
  laidMetH_of_parts3 (fuel := 8) (laidMet_of_run' 8 (by kernel_rfl) (by kernel_rfl)) (by kernel_rfl) (by kernel_rfl)
set_option maxRecDepth 100000 in
theorem lifted (os : Os) (started : os.Started) (H : Type) (enc : TypeId × Value → H) :
    ReturnsInHanded {} Tryd.checked os 3 .any (fun w args => (Rows.chainWalksSpec.pre enc Tryd.prog Tryd.f3 [] false w args ∧ laidMetH Tryd.prog Rows.chainWalksRow.laid w) ∧ sizedMet enc Tryd.prog Tryd.f3 (OpenSpec.ofChange Rows.chainWalksSpec) false w args) (Rows.chainWalksSpec.post enc Tryd.prog Tryd.f3 false true false false) := by
  refine returnsInHanded_of_change_and (C := Tryd.checked) (X := fun w _ => laidMetH Tryd.prog Rows.chainWalksRow.laid w) (fun _ _ _ hh h => h.of_heap hh) own started (by kernel_rfl) Tryd.func3
    (ChangeSpec.witness_shaped (enc := enc) (C := Tryd.checked) (os := os) (X := fun w _ => laidMetH Tryd.prog Rows.chainWalksRow.laid w) false (World.doorLaid Tryd.prog 400 os) #[.agg (zrow8 32), .int .i64 0, .int .i64 0] 8 rfl (World.shaped_of_RefB (by kernel_rfl) (by kernel_rfl)) (by kernel_rfl) (by kernel_rfl) (by kernel_rfl) (door_met os _)) ?_
  intro W base args ds gs before hval0 hW _ hsz0 hL _
  have hLL := of_laid hL
  have hval : ∀ (j : Nat) t v, Tryd.f3.params[j]? = some t → args[j]? = some v → Value.okWide Tryd.prog W .any base t v := hval0
  have hW' := hW
  obtain ⟨p, q, hA0, hV, rfl, hfz, hnd⟩ := hW
  have hA : DataW.TrodAll enc Tryd.prog W 0 (fun _ => true) true Tryd.f3.params.toList args.toList ds p := hA0
  have hsz : (DataW.weightsEach Tryd.prog (Tryd.f3.params.toList ++ Rows.chainWalksSpec.plain.varTypes Tryd.prog) (ds ++ gs)).all (· ≤ reachBytes) = true := hsz0
  rw [Tryd.params3] at hA hval hsz
  obtain ⟨v0, vs0, d0, ds0, p0, q0, hargs, rfl, rfl, h0, r0⟩ := trodAll_cons hA
  obtain ⟨v1, vs1, d1, ds1, p1, q1, rfl, rfl, rfl, h1, r1⟩ := trodAll_cons r0
  obtain ⟨v2, vs2, d2, ds2, p2, q2, rfl, rfl, rfl, h2, r2⟩ := trodAll_cons r1
  obtain ⟨rfl, rfl, rfl⟩ := trodAll_nil r2
  obtain rfl : args = #[v0, v1, v2] := by cases args; simp_all
  obtain ⟨rfl, rfl⟩ := trodVars_none hV
  have k0 := h0
  have lt0 : ∀ x ∈ p0, x.block < W.heap.size := by obtain ⟨m, hm⟩ := k0; exact DataW.trod_lt m _ _ _ hm
  obtain ⟨l0, rfl, hl0⟩ := open_words (m := 8) rfl rfl Tryd.underlying23 Tryd.underlying5 cells_uint8 cells_32_uint8 (hval 0 23 v0 rfl rfl) h0
  have k1 := h1
  have lt1 : ∀ x ∈ p1, x.block < W.heap.size := by obtain ⟨m, hm⟩ := k1; exact DataW.trod_lt m _ _ _ hm
  obtain ⟨a1, rfl, rfl, rfl, w1⟩ := open_int Tryd.underlying3 (hval 1 3 v1 rfl rfl) h1
  have k2 := h2
  have lt2 : ∀ x ∈ p2, x.block < W.heap.size := by obtain ⟨m, hm⟩ := k2; exact DataW.trod_lt m _ _ _ hm
  obtain ⟨a2, rfl, rfl, rfl, w2⟩ := open_int Tryd.underlying3 (hval 2 3 v2 rfl rfl) h2
  obtain ⟨Q0, Q1⟩ := hLL
  clear hA0 hval0 hsz0
  refine (law_walks15 W l0 a1 a2 hl0 (gl256_of Q1) Q0).mono fun e W' ⟨he, hu⟩ => ?_
  subst he
  have bel := hu.below
  exact ⟨_, rfl, _, _, _, [], _, [], hW', trodAll_mk1 (shut_bool Tryd.underlying4 _), (trodAll_cons_mk (Below.trod laidOut (by kernel_rfl) (of_decide_eq_true (by kernel_rfl)) k0 bel lt0) (trodAll_cons_mk (Below.trod laidOut (by kernel_rfl) (of_decide_eq_true (by kernel_rfl)) k1 bel lt1) (trodAll_cons_mk (Below.trod laidOut (by kernel_rfl) (of_decide_eq_true (by kernel_rfl)) k2 bel lt2) trodAll_mk0))), rfl, bel.frame _, fun h => by cases h⟩
theorem over : Rows.chainWalksRow.holds Tryd.pinned (OpenSpec.ofChange Rows.chainWalksSpec) :=
  OpenClaim.holds_of_wide 3 Tryd.f3 rfl rfl rfl rfl rfl rfl rfl ⟨rfl, rfl, rfl, rfl, rfl⟩ rfl rfl rfl rfl rfl (by kernel_rfl) Tryd.func3 (by kernel_rfl)
    (of_decide_eq_true (by kernel_rfl)) (by unfold Func.isWrapper; first | (rw [if_pos (by decide +kernel)]; kernel_rfl) | (rw [if_neg (by decide +kernel)]; exact ⟨rfl, rfl⟩))
    (fun os started H enc _ => lifted os started H enc)
theorem card : Rows.ChainWalksCardSaid :=
  Claim7.holds_tied_plain_at .later [] [.data, .data] true (true, "4620183f1deac5c3331b6e9239e870cdd37c7235c90eadfa48565d6a1e04d55c") false
    over (fun _ h => by cases h) (by kernel_rfl) (fun _ h => by cases h) chainWalks_row_tie rfl ⟨rfl, rfl⟩ (by kernel_rfl) rfl
    (fun f fn hf hfn => by
      obtain rfl : f = 3 := Option.some.inj ((show Tryd.prog.funcNamed "farebox/fareboxlaw15.ChainWalks" = some 3 by kernel_rfl).symm.trans hf) |>.symm
      obtain rfl : fn = Tryd.f3 := (Option.some.inj (Tryd.func3.symm.trans hfn)).symm
      exact ⟨by kernel_rfl, fun j t ht => by
        rw [Tryd.params3] at ht
        have hm : t ∈ [23, 3, 3] := by simpa using Array.mem_of_getElem? ht
        have hall : ([23, 3, 3].all fun u => !Tryd.prog.wantsStandIn u) = true := by kernel_rfl
        exact (show Tryd.prog.wantsStandIn t = false by simpa using List.all_eq_true.1 hall t hm)⟩)
    (by kernel_rfl)
end rowChainWalks
theorem chainWalks_holds : Rows.ChainWalksCardSaid := rowChainWalks.card
#print axioms chainWalks_holds
end Go.Proofs.YtaphbkkklapdaaaDoor
