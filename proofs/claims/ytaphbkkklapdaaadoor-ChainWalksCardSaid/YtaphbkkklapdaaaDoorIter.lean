/-
  chain.Iterate and the document's Iterate.
-/
import Derived.Test.YtaphbkkklapdaaaDoorStep
namespace Go.Proofs.YtaphbkkklapdaaaDoor
open Go Go.RowKit Go.Proofs
/-- what Iterate answers -/
def iterOf (m : List (BitVec 8)) (n : Int) : List (BitVec 8) × Bool := if n < 0 ∨ n > 4096 then (List.replicate 32 0, false) else (steps m n.toNat, true)
theorem iterOf_length (m : List (BitVec 8)) (n : Int) (h : m.length = 32) : (iterOf m n).1.length = 32 := by
  unfold iterOf; split
  · simp
  · exact steps_length m h _
theorem results_agg_tmp {P : Program} {fn : Func} {p u : Tmp} {ty : TypeId} (h : fn.results = #[.cell p ty, .tmp u]) (tmps : Array Value) (w : World) (g : Nat) (t : TypeId) (cs : Array Value) (fr : Nat × Nat) (d : TypeDesc)
    (hp : tmps.getD p undef = .pointer (some ⟨g, 0, none⟩)) (hg : w.heap[g]? = some (.cells cs t fr))
    (hu : P.underlying ty = some d) (hd : (match d with | .struct _ | .array _ _ => true | _ => false) = true) (hi : (P.info? ty).map (·.size) = some cs.size) :
    (results fn tmps).run P w = .ok (.tuple #[.agg cs, tmps.getD u undef]) w := by
  rw [results_cell_tmp h, hp]
  simp [asAddr, run_loadVar_row w g t ty cs fr d hg hu hd hi, Result.andThen]
theorem zrow_h32 : zrow8 32 = ((List.replicate 32 (0 : BitVec 8)).map U8).toArray := by kernel_rfl
theorem size_zrow32 : (Tryd.prog.info? 23).map (·.size) = some (zrow8 32).size := by kernel_rfl
set_option maxRecDepth 100000 in
set_option maxHeartbeats 3200000 in
theorem iterate_ (w : World) (m : List (BitVec 8)) (n : Int) (hm : m.length = 32) (hg : Gl256 w) (hf : GlFirst256 w) :
    Calls Tryd.prog 19 #[.agg (m.map U8).toArray, .int .i64 n] w fun e w' => e = .returned (.tuple #[.agg ((iterOf m n).1.map U8).toArray, .bool (iterOf m n).2]) ∧ Upd [] w w' := by
  have HG := Lib.hid hg
  have HF := Lib.hid hf
  clear hg hf
  obtain ⟨cs, hcs⟩ : ∃ cs, (m.map U8).toArray = cs := ⟨_, rfl⟩
  rw [hcs]
  obtain ⟨B, hB⟩ : ∃ B, w.heap.size = B := ⟨_, rfl⟩
  by_cases h01 : n < 0 ∨ n > 4096
  · have e : iterOf m n = (List.replicate 32 0, false) := by rw [iterOf, if_pos h01]
    rw [e, ← zrow_h32]
    by_cases h0 : n < 0
    all_goals
      go_enter Tryd.func19, Tryd.ntmps19
      go_upto_region 2 with (fail)
      generalize hw2 : World.alloc (World.alloc w _) _ = w2
      have hU2 : Upd [] w w2 := by rw [← hw2]; exact ((Upd.refl _ w).alloc _).alloc _
      have h2 : w2.heap[B + 1]? = some (.cells (zrow8 32) 23 (0, 0)) := by rw [← hw2]; exact hget_new (by simp [hB])
      go_wp2_with (refine wpList_store_row rfl 23 _ _ rfl (B + 1) (zrow8 32) rfl rfl 23 _ h2 size_zrow32 rfl (by rw [zrow_h32]; simp) ?_)
      refine bodyPost_ret (v := .tuple #[.agg (zrow8 32), .bool false]) (results_agg_tmp (p := 4) (u := 5) rfl _ _ (B + 1) 23 _ (0, 0) _ rfl (setRow_heap w2 (B + 1) _ _ 23 (0, 0) h2) Tryd.underlying23 rfl size_zrow32) rfl ⟨rfl, ?_⟩
      exact hU2.setRow _ _ (by omega)
  · have e : iterOf m n = (steps m n.toNat, true) := by rw [iterOf, if_neg h01]
    rw [e]
    obtain ⟨N, rfl⟩ : ∃ N : Nat, n = N := ⟨n.toNat, by omega⟩
    have hN : N ≤ 4096 := by omega
    have hN0 : ¬ ((N : Int) < 0) := by omega
    have hN1 : ¬ ((N : Int) > 4096) := by omega
    rw [show ((N : Int)).toNat = N from by simp]
    clear h01 e
    have HCS := Lib.hid hcs
    clear hcs
    go_enter Tryd.func19, Tryd.ntmps19
    go_upto_region 2 with (fail)
    generalize hw2 : World.alloc (World.alloc w _) _ = w2
    have hU2 : Upd [] w w2 := by rw [← hw2]; exact ((Upd.refl _ w).alloc _).alloc _
    have h1 : w2.heap[B]? = some (.cells cs 23 (0, 0)) := by rw [← hw2]; exact hget_old (hget_new hB.symm)
    have h2 : w2.heap[B + 1]? = some (.cells (zrow8 32) 23 (0, 0)) := by rw [← hw2]; exact hget_new (by simp [hB])
    rw [← HCS.out] at h1
    clear hw2
    go_wp2
    go_loopw [14] (fun i wr => ∃ k : Nat, k ≤ N ∧ i = .int .i64 k ∧ wr.heap[B]? = some (.cells ((steps m k).map U8).toArray 23 (0, 0)) ∧ wr.heap[B + 1]? = some (.cells (zrow8 32) 23 (0, 0)) ∧ Upd [] w wr) (fun i _ => N - (intOf i).toNat)
    case atStart => exact ⟨0, by omega, rfl, h1, h2, hU2⟩
    case round =>
      obtain ⟨k, hk, rfl, hR, hZ, hU⟩ := hrel
      have hX := steps_length m hm k
      have hXs : steps m (k + 1) = sha256 (steps m k) := rfl
      obtain ⟨X, hx⟩ : ∃ X, steps m k = X := ⟨_, rfl⟩
      rw [hx] at hR hX hXs
      have hs : (Tryd.prog.info? 23).map (·.size) = some ((X.map U8).toArray).size := by simp only [List.size_toArray, List.length_map, hX]; exact size_h32
      by_cases h : k < N
      · have hY : (sha256 X).length = 32 := sha256_length X
        have hst := fun w h1 h2 => step_ w X hX h1 h2
        obtain ⟨Y, hy⟩ : ∃ Y, sha256 X = Y := ⟨_, rfl⟩
        rw [hy] at hXs hY hst
        have hs2 : (Tryd.prog.info? 23).map (·.size) = some ((Y.map U8).toArray).size := by simp only [List.size_toArray, List.length_map, hY]; exact size_h32
        have ho : ((X.map U8).toArray).size = ((Y.map U8).toArray).size := by simp [hX, hY]
        have ha : ((Y.map U8).toArray).all (·.oneCell') = true := by simp
        have HXS := Lib.hid hXs
        have HST := Lib.hid hst
        have hkn : (k : Int) < (N : Int) := by omega
        clear hXs hst hx hy
        go_wp2_with (first
          | (refine wpList_load_row rfl 23 _ rfl B rfl 23 _ (0, 0) _ hR Tryd.underlying23 rfl hs ?_)
          | (go_at_call 11; refine (HST.out _ (HG.out.upd hU (by simp)) (HF.out.upd hU (by simp))).mono ?_; rintro e w3 ⟨rfl, hU3⟩)
          | (refine wpList_store_row rfl 23 _ _ rfl B _ rfl rfl 23 _ (hU3.heap hR (by simp)) hs2 ho ha ?_))
        go_roundw
        case rel => exact ⟨k + 1, by omega, by go_num, by rw [HXS.out]; exact setRow_heap w3 B _ _ 23 (0, 0) (hU3.heap hR (by simp)), by rw [setRow_other _ _ _ _ (by omega)]; exact hU3.heap hZ (by simp), (hU.trans hU3).setRow _ _ (by omega)⟩
        case measure => simp [intOf]; omega
      · obtain rfl : k = N := by omega
        have ho : (zrow8 32).size = ((X.map U8).toArray).size := by simp only [List.size_toArray, List.length_map, hX, zrow8_size]
        have ha : ((X.map U8).toArray).all (·.oneCell') = true := by simp
        clear hXs
        go_wp2_with (first
          | (refine wpList_load_row rfl 23 _ rfl B rfl 23 _ (0, 0) _ hR Tryd.underlying23 rfl hs ?_)
          | (refine wpList_store_row rfl 23 _ _ rfl (B + 1) _ rfl rfl 23 _ hZ hs ho ha ?_))
        refine bodyPost_ret (v := .tuple #[.agg (X.map U8).toArray, .bool true]) (results_agg_tmp (p := 4) (u := 5) rfl _ _ (B + 1) 23 _ (0, 0) _ rfl (setRow_heap wr (B + 1) _ _ 23 (0, 0) hZ) Tryd.underlying23 rfl hs) rfl ⟨by rw [hx], ?_⟩
        exact hU.setRow _ _ (by omega)
end Go.Proofs.YtaphbkkklapdaaaDoor
