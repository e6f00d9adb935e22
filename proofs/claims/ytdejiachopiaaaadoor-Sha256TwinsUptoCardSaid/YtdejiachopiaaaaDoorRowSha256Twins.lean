/-
  Sha256Twins: Clone and Reset touch one Digest alone; the row, and its tied card. Condition: what is read is of bulk at most 1048576.
-/
import Derived.Test.YtdejiachopiaaaaDoorLawTwins256
import Derived.Test.YtdejiachopiaaaaDoorOpenBytes
import Derived.Test.YtdejiachopiaaaaDoorGl256
import Derived.Test.YtdejiachopiaaaaDoorBulk
import Derived.Test.YtdejiachopiaaaaDoorOpen
import Derived.Test.YtdejiachopiaaaaDoorCards
import Derived.Test.YtdejiachopiaaaaDoorTie
import Derived.Stop.Joined
import Derived.SevenTiedAt
import Derived.ProofKit
import Derived.OpenShut
import Derived.ShutString
import Derived.ChangeOld
import Derived.Below
import Derived.Deep.DeepHandedRow
import Derived.Lib.LaidTab
import Derived.Deep.DeepWitnessRowRef
namespace Go.Proofs.YtdejiachopiaaaaDoor
open Go Go.ChangeShapes Go.WideShapes Go.ChangeAt Go.RowKit
namespace rowSha256Twins
theorem own : ownKnob Tryd.prog.godebug = none := by kernel_rfl
theorem laidOut : laidOutB Tryd.prog = true := by kernel_rfl
theorem bytesof8 : Tryd.prog.bytesOf 5 = 1 := by kernel_rfl
theorem cells_uint8 : Tryd.prog.cellsOf 5 = 1 := by kernel_rfl
theorem g0 : Tryd.prog.globalNamed "farebox/sha256.first" = some 2 := by kernel_rfl
theorem t0 : (Tryd.prog.globals[2]?).map (·.type) = some 30 := by kernel_rfl
theorem cs0 : Tryd.prog.cellsOf 30 = 8 := by kernel_rfl
theorem ce0 : Tryd.prog.cellsOf 29 = 1 := by kernel_rfl
theorem datum0 {H : Type} : (Rows.laid_farebox_sha256_first : DataW H) = .agg ((first256.list.map fun x => (x.toNat : Int)).map fun i => .lit (.int .u32 i)) := rfl
theorem g1 : Tryd.prog.globalNamed "farebox/sha256.constants" = some 1 := by kernel_rfl
theorem t1 : (Tryd.prog.globals[1]?).map (·.type) = some 32 := by kernel_rfl
theorem cs1 : Tryd.prog.cellsOf 32 = 64 := by kernel_rfl
theorem ce1 : Tryd.prog.cellsOf 29 = 1 := by kernel_rfl
theorem datum1 {H : Type} : (Rows.laid_farebox_sha256_constants : DataW H) = .agg ((K256.map fun x => (x.toNat : Int)).map fun i => .lit (.int .u32 i)) := rfl
theorem of_laid {W : World} (h : laidMetH Tryd.prog Rows.sha256TwinsRow.laid W) : (∃ T fr, W.heap[2]? = some (.cells (first256.list.map U32).toArray T fr)) ∧ (∃ T fr, W.heap[1]? = some (.cells (K256.map U32).toArray T fr)) := by
  rw [MakeChecks.laidMetH_plain _ _ _ (by kernel_rfl)] at h
  obtain ⟨ps, ⟨g0_, t0_, cs0_, f0_, p0_, q0_, hg0, ht0, hv0, hd0, ⟨g1_, t1_, cs1_, f1_, p1_, q1_, hg1, ht1, hv1, hd1, _⟩, _⟩, _, _⟩ := h
  obtain rfl := Option.some.inj (g0.symm.trans hg0)
  obtain rfl := Option.some.inj (t0.symm.trans ht0)
  rw [datum0] at hd0
  have z0 := laid_words g0 hv0 Tryd.underlying30 Tryd.underlying29 ce0 cs0 hd0
  rw [List.map_map] at z0
  obtain rfl := Option.some.inj (g1.symm.trans hg1)
  obtain rfl := Option.some.inj (t1.symm.trans ht1)
  rw [datum1] at hd1
  have z1 := laid_words g1 hv1 Tryd.underlying32 Tryd.underlying29 ce1 cs1 hd1
  rw [List.map_map] at z1
  exact ⟨z0, z1⟩
theorem door_met (os : Os) (args : Array Value) : laidMetH Tryd.prog Rows.sha256TwinsRow.laid ((World.doorLaid Tryd.prog 400 os).forCall (fun _ _ => 0) ⟨#[], args, []⟩).memory :=
  laidMetH_of_parts3 (fuel := 8) (laidMet_of_run' 8 (by kernel_rfl) (by kernel_rfl)) (by kernel_rfl) (by kernel_rfl)
theorem reads (os : Os) {H : Type} (enc : TypeId × Value → H) : ∃ places, DataW.whole enc Tryd.prog ((World.doorLaid Tryd.prog 400 os).forCall (fun _ _ => 0) ⟨#[], #[.slice none 0 0, .slice none 0 0, .slice none 0 0], []⟩).memory Tryd.f10.params.toList Rows.sha256TwinsSpec.vars false (#[.slice none 0 0, .slice none 0 0, .slice none 0 0] : Array Value).toList 8 = some ([.nil, .nil, .nil], [], places) := ⟨[], by kernel_rfl⟩
theorem met_laid (os : Os) : laidMet Tryd.prog Rows.sha256TwinsUptoRow.laid ((World.doorLaid Tryd.prog 400 os).forCall (fun _ _ => 0) ⟨#[], #[.slice none 0 0, .slice none 0 0, .slice none 0 0], []⟩).memory := laidMet_of_run' 8 (by kernel_rfl) (by kernel_rfl)
set_option maxRecDepth 100000 in
theorem lifted (os : Os) (started : os.Started) (H : Type) (enc : TypeId × Value → H) (F : Stop.Interp) :
    ReturnsInHanded {} Tryd.checked os 10 .any ((Rows.OpenSpec.upto Rows.sha256TwinsSpec).preRow enc Tryd.prog Tryd.f10 Rows.sha256TwinsUptoRow.domain false Rows.sha256TwinsUptoRow.laid) (((Rows.OpenSpec.upto Rows.sha256TwinsSpec).at F).post enc Tryd.prog Tryd.f10 false true false false) := by
  obtain ⟨places, hx⟩ := reads os enc
  refine returnsInHanded_of_row (C := Tryd.checked) (s := Rows.OpenSpec.upto Rows.sha256TwinsSpec) own started (by kernel_rfl) Tryd.func10
    (witness_row_atRef (enc := enc) (C := Tryd.checked) false (World.doorLaid Tryd.prog 400 os) #[.slice none 0 0, .slice none 0 0, .slice none 0 0] rfl (by kernel_rfl) (by kernel_rfl) (by kernel_rfl)
      (OpenSpec.preRow_of_cond 8 hx (by kernel_rfl) (fun k hk => by cases hk; kernel_rfl) (by kernel_rfl) (met_laid os))) ?_
  intro W base args ds gs before hval0 hW _ hcond hsz0 hL _ _
  have hLL := of_laid hL
  have hval : ∀ (j : Nat) t v, Tryd.f10.params[j]? = some t → args[j]? = some v → Value.okWide Tryd.prog W .any base t v := hval0
  have hW' := hW
  obtain ⟨p, q, hA0, hV, rfl, hfz, hnd⟩ := hW
  have hA : DataW.TrodAll enc Tryd.prog W 0 (fun _ => true) true Tryd.f10.params.toList args.toList ds p := hA0
  have hsz : (DataW.weightsEach Tryd.prog (Tryd.f10.params.toList ++ Rows.sha256TwinsSpec.plain.varTypes Tryd.prog) (ds ++ gs)).all (· ≤ reachBytes) = true := hsz0
  rw [Tryd.params10] at hA hval hsz
  have hbulk : Rows.uptoBulkAll (ds ++ gs) ≤ 1048576 := of_decide_eq_true (hcond _ rfl)
  obtain ⟨v0, vs0, d0, ds0, p0, q0, hargs, rfl, rfl, h0, r0⟩ := trodAll_cons hA
  obtain ⟨v1, vs1, d1, ds1, p1, q1, rfl, rfl, rfl, h1, r1⟩ := trodAll_cons r0
  obtain ⟨v2, vs2, d2, ds2, p2, q2, rfl, rfl, rfl, h2, r2⟩ := trodAll_cons r1
  obtain ⟨rfl, rfl, rfl⟩ := trodAll_nil r2
  obtain rfl : args = #[v0, v1, v2] := by cases args; simp_all
  obtain ⟨rfl, rfl⟩ := trodVars_none hV
  have k0 := h0
  have lt0 : ∀ x ∈ p0, x.block < W.heap.size := by obtain ⟨m, hm⟩ := k0; exact DataW.trod_lt m _ _ _ hm
  obtain ⟨l0, R0, hl0, hb0⟩ := open_bytes Tryd.underlying36 Tryd.underlying5 cells_uint8 bytesof8 hsz 0 rfl rfl (hval 0 36 v0 rfl rfl) h0
  have k1 := h1
  have lt1 : ∀ x ∈ p1, x.block < W.heap.size := by obtain ⟨m, hm⟩ := k1; exact DataW.trod_lt m _ _ _ hm
  obtain ⟨l1, R1, hl1, hb1⟩ := open_bytes Tryd.underlying36 Tryd.underlying5 cells_uint8 bytesof8 hsz 1 rfl rfl (hval 1 36 v1 rfl rfl) h1
  have k2 := h2
  have lt2 : ∀ x ∈ p2, x.block < W.heap.size := by obtain ⟨m, hm⟩ := k2; exact DataW.trod_lt m _ _ _ hm
  obtain ⟨l2, R2, hl2, hb2⟩ := open_bytes Tryd.underlying36 Tryd.underlying5 cells_uint8 bytesof8 hsz 2 rfl rfl (hval 2 36 v2 rfl rfl) h2
  obtain ⟨Q0, Q1⟩ := hLL
  clear hA0 hval0 hsz0
  refine (law_twins256 W v0 v1 v2 l0 l1 l2 R0 R1 R2 (bulk_slice hbulk (by simp) hb0) (bulk_slice hbulk (by simp) hb1) (bulk_slice hbulk (by simp) hb2) (gl256_of Q1) Q0).mono fun e W' ⟨he, hu⟩ => ?_
  subst he
  have bel := hu.below
  exact ⟨_, rfl, _, _, _, [], _, [], hW', trodAll_mk1 (shut_bool Tryd.underlying4 _), (trodAll_cons_mk (Below.trod laidOut (by kernel_rfl) (of_decide_eq_true (by kernel_rfl)) k0 bel lt0) (trodAll_cons_mk (Below.trod laidOut (by kernel_rfl) (of_decide_eq_true (by kernel_rfl)) k1 bel lt1) (trodAll_cons_mk (Below.trod laidOut (by kernel_rfl) (of_decide_eq_true (by kernel_rfl)) k2 bel lt2) trodAll_mk0))), rfl, bel.frame _, fun h => by cases h⟩
theorem said : Rows.Sha256TwinsUptoSaid :=
  OpenClaim.holds_of_cond 10 Tryd.f10 rfl rfl rfl rfl rfl rfl rfl ⟨rfl, rfl, rfl, rfl, rfl⟩ rfl rfl rfl rfl rfl (by kernel_rfl) Tryd.func10 (by kernel_rfl)
    (of_decide_eq_true (by kernel_rfl)) (by unfold Func.isWrapper; first | (rw [if_pos (by decide +kernel)]; kernel_rfl) | (rw [if_neg (by decide +kernel)]; exact ⟨rfl, rfl⟩))
    (fun os started H enc _ F => by rw [OpenClaim.pre_eq_preRow]; exact lifted os started H enc F)
theorem plain (f : FuncId) (fn : Func) (hf : Tryd.pinned.checked.prog.funcNamed "farebox/fareboxlaw02.Sha256Twins" = some f) (hfn : Tryd.pinned.checked.prog.funcs[f]? = some fn) :
    false = Tryd.pinned.checked.prog.looks [] ∧ ∀ (j : Nat) t, fn.params[j]? = some t → Tryd.pinned.checked.prog.wantsStandIn t = false := by
  obtain rfl : f = 10 := Option.some.inj ((show Tryd.prog.funcNamed "farebox/fareboxlaw02.Sha256Twins" = some 10 by kernel_rfl).symm.trans hf) |>.symm
  obtain rfl : fn = Tryd.f10 := (Option.some.inj (Tryd.func10.symm.trans hfn)).symm
  refine ⟨by kernel_rfl, fun j t ht => ?_⟩
  rw [Tryd.params10] at ht
  have hm : t ∈ [36, 36, 36] := by simpa using Array.mem_of_getElem? ht
  have hall : ([36, 36, 36].all fun u => !Tryd.prog.wantsStandIn u) = true := by kernel_rfl
  exact (show Tryd.prog.wantsStandIn t = false by simpa using List.all_eq_true.1 hall t hm)
theorem card : Rows.Sha256TwinsUptoCardSaid :=
  Claim7.holds_tied_plain_at .later [] _ _ _ _ said (fun _ h => by cases h) (by kernel_rfl) (fun _ h => by cases h) sha256TwinsUpto_row_tie rfl ⟨rfl, rfl⟩ (by kernel_rfl) rfl plain (by kernel_rfl)
end rowSha256Twins
theorem sha256TwinsUpto_holds : Rows.Sha256TwinsUptoCardSaid := rowSha256Twins.card
#print axioms sha256TwinsUpto_holds
end Go.Proofs.YtdejiachopiaaaaDoor
