/-
  Sha256Blocks: the schedule of every block, and every state led through every block, are the document's; the row, and its tied card. No condition.
-/
import Derived.Test.YtdejiachopiaaaaDoorLawBlocks256
import Derived.Test.YtdejiachopiaaaaDoorOpen
import Derived.Test.YtdejiachopiaaaaDoorCards
import Derived.Test.YtdejiachopiaaaaDoorTie
import Derived.Stop.Joined
import Derived.SevenTiedAt
namespace Go.Proofs.YtdejiachopiaaaaDoor
open Go Go.ChangeShapes Go.WideShapes Go.ChangeAt Go.RowKit
namespace blocks256
theorem own : ownKnob Tryd.prog.godebug = none := by kernel_rfl
theorem laidOut : laidOutB Tryd.prog = true := by kernel_rfl
theorem gK : Tryd.prog.globalNamed "farebox/sha256.constants" = some 1 := by kernel_rfl
theorem tK : (Tryd.prog.globals[1]?).map (·.type) = some 32 := by kernel_rfl
theorem cellsK : Tryd.prog.cellsOf 32 = 64 := by kernel_rfl
theorem cellsU : Tryd.prog.cellsOf 29 = 1 := by kernel_rfl
theorem cellsB : Tryd.prog.cellsOf 5 = 1 := by kernel_rfl
theorem cellsS : Tryd.prog.cellsOf 30 = 8 := by kernel_rfl
theorem cellsL : Tryd.prog.cellsOf 31 = 64 := by kernel_rfl
theorem datum {H : Type} : (Rows.laid_farebox_sha256_constants : DataW H) = .agg ((K256.map fun x => (x.toNat : Int)).map fun i => .lit (.int .u32 i)) := rfl
theorem of_laid {W : World} (h : laidMetH Tryd.prog Rows.sha256BlocksRow.laid W) : Gl256 W := by
  rw [MakeChecks.laidMetH_plain _ _ _ (by kernel_rfl)] at h
  obtain ⟨ps, ⟨g0, t0, cs0, f0, p0, q0, hg0, ht0, hv0, hd0, _⟩, _, _⟩ := h
  obtain rfl := Option.some.inj (gK.symm.trans hg0)
  obtain rfl := Option.some.inj (tK.symm.trans ht0)
  rw [datum] at hd0
  obtain ⟨t, fr, hr⟩ := laid_words gK hv0 Tryd.underlying32 Tryd.underlying29 cellsU cellsK hd0
  intro i hi
  rw [cell_of_row _ _ _ _ _ _ hr]
  have hl : K256.length = 64 := rfl
  simp [hl, hi, U32]
theorem door_met (os : Os) (args : Array Value) : laidMetH Tryd.prog Rows.sha256BlocksRow.laid ((World.doorLaid Tryd.prog 400 os).forCall (fun _ _ => 0) ⟨#[], args, []⟩).memory :=
  laidMetH_of_parts3 (fuel := 8) (laidMet_of_run' 8 (by kernel_rfl) (by kernel_rfl)) (by kernel_rfl) (by kernel_rfl)
theorem st_of {l : List (BitVec 32)} (h : l.length = 8) : ∃ s : St 32, l = s.list := by
  match l, h with
  | [a, b, c, d, e, f, g, i], _ => exact ⟨⟨a, b, c, d, e, f, g, i⟩, rfl⟩
set_option maxRecDepth 100000 in
theorem lifted (os : Os) (started : os.Started) (H : Type) (enc : TypeId × Value → H) :
    ReturnsInHanded {} Tryd.checked os 4 .any (fun w args => (Rows.sha256BlocksSpec.pre enc Tryd.prog Tryd.f4 [] false w args ∧ laidMetH Tryd.prog Rows.sha256BlocksRow.laid w) ∧ sizedMet enc Tryd.prog Tryd.f4 (OpenSpec.ofChange Rows.sha256BlocksSpec) false w args)
      (Rows.sha256BlocksSpec.post enc Tryd.prog Tryd.f4 false true false false) := by
  refine returnsInHanded_of_change_and (C := Tryd.checked) (X := fun w _ => laidMetH Tryd.prog Rows.sha256BlocksRow.laid w) (fun _ _ _ hh h => h.of_heap hh) own started (by kernel_rfl) Tryd.func4
    (ChangeSpec.witness_shaped (enc := enc) (C := Tryd.checked) (os := os) (X := fun w _ => laidMetH Tryd.prog Rows.sha256BlocksRow.laid w) false (World.doorLaid Tryd.prog 400 os) #[.agg (zrow32 8), .agg (zrow8 64)] 8 rfl (World.shaped_of_RefB (by kernel_rfl) (by kernel_rfl)) (by kernel_rfl) (by kernel_rfl) (by kernel_rfl) (door_met os _)) ?_
  intro W base args ds gs before hval0 hW _ _ hL _
  have hval : ∀ (j : Nat) t v, Tryd.f4.params[j]? = some t → args[j]? = some v → Value.okWide Tryd.prog W .any base t v := hval0
  have hW' := hW
  obtain ⟨p, q, hA0, hV, rfl, hfz, hnd⟩ := hW
  have hA : DataW.TrodAll enc Tryd.prog W 0 (fun _ => true) true Tryd.f4.params.toList args.toList ds p := hA0
  rw [Tryd.params4] at hA hval
  obtain ⟨v0, vs0, d0, ds0, p0, q0, hargs, rfl, rfl, h0, r0⟩ := trodAll_cons hA
  obtain ⟨v1, vs1, d1, ds1, p1, q1, rfl, rfl, rfl, h1, r1⟩ := trodAll_cons r0
  obtain ⟨rfl, rfl, rfl⟩ := trodAll_nil r1
  obtain rfl : args = #[v0, v1] := by cases args; simp_all
  obtain ⟨rfl, rfl⟩ := trodVars_none hV
  have k0 := h0
  have k1 := h1
  have lt0 : ∀ x ∈ p0, x.block < W.heap.size := by obtain ⟨m, hm⟩ := k0; exact DataW.trod_lt m _ _ _ hm
  have lt1 : ∀ x ∈ p1, x.block < W.heap.size := by obtain ⟨m, hm⟩ := k1; exact DataW.trod_lt m _ _ _ hm
  obtain ⟨sl, hv0, hsl⟩ := open_words (m := 32) rfl rfl Tryd.underlying30 Tryd.underlying29 cellsU cellsS (hval 0 30 v0 rfl rfl) h0
  obtain ⟨l, hv1, hl⟩ := open_words (m := 8) rfl rfl Tryd.underlying31 Tryd.underlying5 cellsB cellsL (hval 1 31 v1 rfl rfl) h1
  obtain ⟨s, rfl⟩ := st_of hsl
  subst hv0 hv1
  have hG := of_laid hL
  clear hA0 hval0
  refine (law_blocks256 W s l hl hG).mono fun e W' ⟨he, hu⟩ => ?_
  subst he
  have bel := hu.below
  exact ⟨_, rfl, _, _, _, [], _, [], hW', trodAll_mk1 (shut_bool Tryd.underlying4 _), (trodAll_cons_mk (Below.trod laidOut (by kernel_rfl) (of_decide_eq_true (by kernel_rfl)) k0 bel lt0) (trodAll_cons_mk (Below.trod laidOut (by kernel_rfl) (of_decide_eq_true (by kernel_rfl)) k1 bel lt1) trodAll_mk0)), rfl, bel.frame _, fun h => by cases h⟩
theorem over : Rows.Sha256BlocksSaid :=
  OpenClaim.holds_of_wide 4 Tryd.f4 rfl rfl rfl rfl rfl rfl rfl ⟨rfl, rfl, rfl, rfl, rfl⟩ rfl rfl rfl rfl rfl (by kernel_rfl) Tryd.func4 (by kernel_rfl)
    (of_decide_eq_true (by kernel_rfl)) (by unfold Func.isWrapper; first | (rw [if_pos (by decide +kernel)]; kernel_rfl) | (rw [if_neg (by decide +kernel)]; exact ⟨rfl, rfl⟩))
    (fun os started H enc _ => lifted os started H enc)
theorem card : Rows.Sha256BlocksCardSaid :=
  Claim7.holds_tied_plain_at .later [] [.data] true (true, "b60fb6b0b8dc00079333a761b7a9496863378413fd21d616951e693b0c949952") false
    over (fun _ h => by cases h) (by kernel_rfl) (fun _ h => by cases h) sha256Blocks_row_tie rfl ⟨rfl, rfl⟩ (by kernel_rfl) rfl
    (fun f fn hf hfn => by
      obtain rfl : f = 4 := Option.some.inj ((show Tryd.prog.funcNamed "farebox/fareboxlaw02.Sha256Blocks" = some 4 by kernel_rfl).symm.trans hf) |>.symm
      obtain rfl : fn = Tryd.f4 := (Option.some.inj (Tryd.func4.symm.trans hfn)).symm
      exact ⟨by kernel_rfl, fun j t ht => by
        rw [Tryd.params4] at ht
        have hm : t ∈ [30, 31] := by simpa using Array.mem_of_getElem? ht
        have hall : ([30, 31].all fun u => !Tryd.prog.wantsStandIn u) = true := by kernel_rfl
        exact (show Tryd.prog.wantsStandIn t = false by simpa using List.all_eq_true.1 hall t hm)⟩)
    (by kernel_rfl)
end blocks256
theorem sha256Blocks_holds : Rows.Sha256BlocksCardSaid := blocks256.card
#print axioms sha256Blocks_holds
end Go.Proofs.YtdejiachopiaaaaDoor
