/-
  merkle.Root: the root of at most 65536 leaves; of more it is refused.
-/
import Derived.Test.YtdfoffheolbokaaDoorOver
namespace Go.Proofs.YtdfoffheolbokaaDoor
open Go Go.RowKit Go.Proofs
theorem results_agg_tmp {P : Program} {fn : Func} {p u : Tmp} {ty : TypeId} (h : fn.results = #[.cell p ty, .tmp u]) (tmps : Array Value) (w : World) (g : Nat) (t : TypeId) (cs : Array Value) (fr : Nat × Nat) (d : TypeDesc)
    (hp : tmps.getD p undef = .pointer (some ⟨g, 0, none⟩)) (hg : w.heap[g]? = some (.cells cs t fr))
    (hu : P.underlying ty = some d) (hd : (match d with | .struct _ | .array _ _ => true | _ => false) = true) (hi : (P.info? ty).map (·.size) = some cs.size) :
    (results fn tmps).run P w = .ok (.tuple #[.agg cs, tmps.getD u undef]) w := by
  rw [results_cell_tmp h, hp]
  simp [asAddr, run_loadVar_row w g t ty cs fr d hg hu hd hi, Result.andThen]
theorem size_z : (Tryd.prog.info? 27).map (·.size) = some (zrow8 32).size := by kernel_rfl
theorem built_hash : Tryd.prog.built 27 [] = some (zrow8 32) := by kernel_rfl
theorem zrow_h : zrow8 32 = ((List.replicate 32 (0 : BitVec 8)).map U8).toArray := by kernel_rfl
theorem zrow_one : (zrow8 32).all (·.oneCell') = true := by rw [zrow_h]; simp
set_option maxRecDepth 100000 in
set_option maxHeartbeats 3200000 in
theorem mroot_ (w : World) (v : Value) (ls : List H8) (hv : RdH w v ls) (hn : ls.length ≤ 65536) (hg : Gl256 w) (hf : GlFirst256 w) :
    Calls Tryd.prog 18 #[v] w fun e w' => e = .returned (.tuple #[.agg ((rootOf ls).map U8).toArray, .bool true]) ∧ Upd [] w w' := by
  obtain ⟨A, c, e, hc1, hc2⟩ := hv.isSlice
  obtain ⟨n, hnn⟩ : ∃ n, ls.length = n := ⟨_, rfl⟩
  rw [hnn] at e hn
  rw [e] at hv ⊢
  obtain ⟨H, hH⟩ : ∃ H, rootOf ls = H := ⟨_, rfl⟩
  have hHl : H.length = 32 := by rw [← hH]; exact rootOf_length ls hv.1
  have hO : Hid (∀ W, Upd [] w W → Calls Tryd.prog 35 #[.slice A n c] W fun e w' => ∃ f, e = .returned f ∧ IsOver w' f ls ∧ Upd [] W w') := fun W hW => over_ W _ ls (hv.upd0 hW)
  have hE : (ls.take n).drop 0 = ls := by rw [List.drop_zero, List.take_of_length_le (by omega)]
  have hs := szrow hHl
  have ho := sameZ hHl
  have ha := oneAll H
  obtain ⟨cH, hcH⟩ : ∃ c, (H.map U8).toArray = c := ⟨_, rfl⟩
  rw [hcH] at hs ho ha
  rw [hH, hcH]
  have HG := Lib.hid hg
  have HF := Lib.hid hf
  have HE := Lib.hid hE
  have HNN := Lib.hid hnn
  have HH := Lib.hid hH
  have HCH := Lib.hid hcH
  have hn' : (n : Int) ≤ 65536 := by omega
  clear hv hg hf e hE hnn hH hcH hHl
  go_enter Tryd.func18, Tryd.ntmps18
  go_wp2_with (with_reducible refine arm_alloc (zero_h32 _) ?_)
  intro b2 w2 hb2 k2 hV2 hz2
  change w2.heap[b2]? = some (.cells (zrow8 32) 27 (0, 0)) at k2
  have hl2 : w.heap.size ≤ b2 := by omega
  clear hb2 hz2
  go_wp2_with (fail)
  with_reducible refine (hO.out _ hV2).mono ?_
  rintro e w3 ⟨f, rfl, hI, hU3⟩
  obtain ⟨b, q, rfl, hC⟩ := hI.call
  have k3 := hU3.heap k2 (by simp)
  have hV3 := hV2.trans hU3
  have HR : Hid (Calls Tryd.prog 52 #[.int .i64 0, .int .i64 n, .pointer (some ⟨b, 0, none⟩), .pointer (some ⟨q, 0, none⟩)] w3 fun e w' => e = .returned (.agg cH) ∧ Upd [] w3 w') := by
    have := hC w3 (Upd.refl _ _) 0 n (by have := HNN.out; omega) (by omega) (by have := HNN.out; omega) (HG.out.upd hV3 (by simp)) (HF.out.upd hV3 (by simp))
    rwa [HE.out, HH.out, HCH.out] at this
  clear hI hC hU3 k2 hV2
  go_wp2_with (fail)
  with_reducible refine HR.out.mono ?_
  rintro e w4 ⟨rfl, hU4⟩
  have k4 := hU4.heap k3 (by simp)
  have hV4 := hV3.trans hU4
  clear HR hU4 k3 hV3
  go_wp2_with (with_reducible refine arm_store (by with_unfolding_all exact rfl) (by with_unfolding_all exact rfl) k4 hs ho ha ?_)
  intro w5 k5 hX5 hz5
  go_wp2_with (fail)
  refine bodyPost_ret (v := .tuple #[.agg cH, .bool true]) (results_agg_tmp (p := 2) (u := 3) rfl _ _ b2 27 _ (0, 0) _ rfl k5 Tryd.underlying27 rfl hs) rfl ⟨rfl, ?_⟩
  exact hV4.trans' hX5 (fun i hm hi => by simp at hm; omega)
set_option maxRecDepth 100000 in
set_option maxHeartbeats 3200000 in
theorem mroot_long (w : World) (A : Option Addr) (n c : Nat) (hn : 65536 < n) :
    Calls Tryd.prog 18 #[.slice A n c] w fun e w' => e = .returned (.tuple #[.agg (zrow8 32), .bool false]) ∧ Upd [] w w' := by
  have hn' : (n : Int) > 65536 := by omega
  have hb := built_hash
  have hsz := size_z
  have hone := zrow_one
  obtain ⟨cz, hcz⟩ : ∃ c, zrow8 32 = c := ⟨_, rfl⟩
  have hzz : ∀ W, (zeroValue 27).run Tryd.prog W = .ok (.agg cz) W := fun W => by rw [← hcz]; exact zero_h32 W
  have HZZ := Lib.hid hzz
  rw [hcz] at hb hsz hone ⊢
  clear hcz hzz
  go_enter Tryd.func18, Tryd.ntmps18
  go_wp2_with (with_reducible refine arm_alloc (HZZ.out _) ?_)
  intro b2 w2 hb2 k2 hV2 hz2
  change w2.heap[b2]? = some (.cells cz 27 (0, 0)) at k2
  have hl2 : w.heap.size ≤ b2 := by omega
  clear hb2 hz2
  go_wp2_with (first | (with_reducible refine arm_build0 hb ?_) | (with_reducible refine arm_store (by with_unfolding_all exact rfl) (by with_unfolding_all exact rfl) k2 hsz rfl hone ?_))
  intro w5 k5 hX5 hz5
  go_wp2_with (fail)
  refine bodyPost_ret (v := .tuple #[.agg cz, .bool false]) (results_agg_tmp (p := 2) (u := 3) rfl _ _ b2 27 _ (0, 0) _ rfl k5 Tryd.underlying27 rfl hsz) rfl ⟨rfl, ?_⟩
  exact hV2.trans' hX5 (fun i hm hi => by simp at hm; omega)
end Go.Proofs.YtdfoffheolbokaaDoor
