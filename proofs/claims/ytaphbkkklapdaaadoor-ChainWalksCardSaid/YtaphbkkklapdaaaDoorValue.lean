/-
  chain.Value, Anchor, Check, Link and the document's.
-/
import Derived.Test.YtaphbkkklapdaaaDoorRefIter
namespace Go.Proofs.YtaphbkkklapdaaaDoor
open Go Go.RowKit Go.Proofs
def mayRide (n : Int) : Bool := decide (1 ≤ n) && decide (n ≤ 4096)
theorem rides_ (w : World) (n : Int) : Calls Tryd.prog 15 #[.int .i64 n] w fun e w' => e = .returned (.bool (mayRide n)) ∧ w = w' := by
  by_cases h0 : n ≥ 1
  · by_cases h1 : n ≤ 4096
    · have e : mayRide n = true := by simp [mayRide, h1]; omega
      rw [e]
      go_enter Tryd.func15, Tryd.ntmps15
      go_wp2
      go_ret
      exact ⟨rfl, rfl⟩
    · have e : mayRide n = false := by simp [mayRide]; omega
      rw [e]
      go_enter Tryd.func15, Tryd.ntmps15
      go_wp2
      go_ret
      exact ⟨rfl, rfl⟩
  · have e : mayRide n = false := by simp [mayRide]; omega
    rw [e]
    go_enter Tryd.func15, Tryd.ntmps15
    go_wp2
    go_ret
    exact ⟨rfl, rfl⟩
/-- what Value answers -/
def valueOf (m : List (BitVec 8)) (n i : Int) : List (BitVec 8) × Bool := if mayRide n = false ∨ i < 0 ∨ i > n then (List.replicate 32 0, false) else iterOf m (n - i)
theorem valueOf_length (m : List (BitVec 8)) (n i : Int) (h : m.length = 32) : (valueOf m n i).1.length = 32 := by
  unfold valueOf; split
  · simp
  · exact iterOf_length m _ h
theorem size_of32 {l : List (BitVec 8)} (h : l.length = 32) : (Tryd.prog.info? 23).map (·.size) = some ((l.map U8).toArray).size := by simp only [List.size_toArray, List.length_map, h]; exact size_h32
theorem same_size32 {a : List (BitVec 8)} (h : a.length = 32) : (zrow8 32).size = ((a.map U8).toArray).size := by simp only [List.size_toArray, List.length_map, h, zrow8_size]
theorem one_of32 (a : List (BitVec 8)) : ((a.map U8).toArray).all (·.oneCell') = true := by simp
theorem one_zrow32 : (zrow8 32).all (·.oneCell') = true := by rw [zrow_h32]; simp
set_option maxRecDepth 100000 in
set_option maxHeartbeats 3200000 in
theorem value_ (w : World) (m : List (BitVec 8)) (n i : Int) (hm : m.length = 32) (hg : Gl256 w) (hf : GlFirst256 w) :
    Calls Tryd.prog 9 #[.agg (m.map U8).toArray, .int .i64 n, .int .i64 i] w fun e w' => e = .returned (.tuple #[.agg ((valueOf m n i).1.map U8).toArray, .bool (valueOf m n i).2]) ∧ Upd [] w w' := by
  obtain ⟨B, hB⟩ : ∃ B, w.heap.size = B := ⟨_, rfl⟩
  have hIT := fun w n h1 h2 => iterate_ w m n hm h1 h2
  have hIL := fun n => iterOf_length m n hm
  have HIT := Lib.hid hIT
  clear hIT
  by_cases hbad : mayRide n = false ∨ i < 0 ∨ i > n
  · have e : valueOf m n i = (List.replicate 32 0, false) := by unfold valueOf; rw [if_pos hbad]
    rw [e, ← zrow_h32]
    obtain ⟨cs, hcs⟩ : ∃ cs, (m.map U8).toArray = cs := ⟨_, rfl⟩
    rw [hcs]
    by_cases h : mayRide n = false
    · clear hbad
      go_enter Tryd.func9, Tryd.ntmps9
      go_upto_region 2 with (fail)
      generalize hw2 : World.alloc (World.alloc w _) _ = w2
      have hU2 : Upd [] w w2 := by rw [← hw2]; exact ((Upd.refl _ w).alloc _).alloc _
      have h1 : w2.heap[B]? = some (.cells cs 23 (0, 0)) := by rw [← hw2]; exact hget_old (hget_new hB.symm)
      have h2 : w2.heap[B + 1]? = some (.cells (zrow8 32) 23 (0, 0)) := by rw [← hw2]; exact hget_new (by simp [hB])
      go_wp2_with (first | (go_at_call 15; refine (rides_ _ n).mono ?_; rintro e w3 ⟨rfl, rfl⟩; rw [h]) | (refine wpList_store_row rfl 23 _ _ rfl (B + 1) (zrow8 32) rfl rfl 23 _ h2 size_zrow32 rfl one_zrow32 ?_))
      refine bodyPost_ret (v := .tuple #[.agg (zrow8 32), .bool false]) (results_agg_tmp (p := 6) (u := 7) rfl _ _ (B + 1) 23 _ (0, 0) _ rfl (setRow_heap w2 (B + 1) _ _ 23 (0, 0) h2) Tryd.underlying23 rfl size_zrow32) rfl ⟨rfl, ?_⟩
      exact hU2.setRow _ _ (by omega)
    · have h' : mayRide n = true := by simpa using h
      by_cases c3 : i < 0
      · clear hbad
        go_enter Tryd.func9, Tryd.ntmps9
        go_upto_region 2 with (fail)
        generalize hw2 : World.alloc (World.alloc w _) _ = w2
        have hU2 : Upd [] w w2 := by rw [← hw2]; exact ((Upd.refl _ w).alloc _).alloc _
        have h1 : w2.heap[B]? = some (.cells cs 23 (0, 0)) := by rw [← hw2]; exact hget_old (hget_new hB.symm)
        have h2 : w2.heap[B + 1]? = some (.cells (zrow8 32) 23 (0, 0)) := by rw [← hw2]; exact hget_new (by simp [hB])
        go_wp2_with (first | (go_at_call 15; refine (rides_ _ n).mono ?_; rintro e w3 ⟨rfl, rfl⟩; rw [h']) | (refine wpList_store_row rfl 23 _ _ rfl (B + 1) (zrow8 32) rfl rfl 23 _ h2 size_zrow32 rfl one_zrow32 ?_))
        refine bodyPost_ret (v := .tuple #[.agg (zrow8 32), .bool false]) (results_agg_tmp (p := 6) (u := 7) rfl _ _ (B + 1) 23 _ (0, 0) _ rfl (setRow_heap w2 (B + 1) _ _ 23 (0, 0) h2) Tryd.underlying23 rfl size_zrow32) rfl ⟨rfl, ?_⟩
        exact hU2.setRow _ _ (by omega)
      · have c4 : i > n := by (rcases hbad with h0 | h0 | h0; exact absurd h0 h; omega; omega)
        clear hbad
        go_enter Tryd.func9, Tryd.ntmps9
        go_upto_region 2 with (fail)
        generalize hw2 : World.alloc (World.alloc w _) _ = w2
        have hU2 : Upd [] w w2 := by rw [← hw2]; exact ((Upd.refl _ w).alloc _).alloc _
        have h1 : w2.heap[B]? = some (.cells cs 23 (0, 0)) := by rw [← hw2]; exact hget_old (hget_new hB.symm)
        have h2 : w2.heap[B + 1]? = some (.cells (zrow8 32) 23 (0, 0)) := by rw [← hw2]; exact hget_new (by simp [hB])
        go_wp2_with (first | (go_at_call 15; refine (rides_ _ n).mono ?_; rintro e w3 ⟨rfl, rfl⟩; rw [h']) | (refine wpList_store_row rfl 23 _ _ rfl (B + 1) (zrow8 32) rfl rfl 23 _ h2 size_zrow32 rfl one_zrow32 ?_))
        refine bodyPost_ret (v := .tuple #[.agg (zrow8 32), .bool false]) (results_agg_tmp (p := 6) (u := 7) rfl _ _ (B + 1) 23 _ (0, 0) _ rfl (setRow_heap w2 (B + 1) _ _ 23 (0, 0) h2) Tryd.underlying23 rfl size_zrow32) rfl ⟨rfl, ?_⟩
        exact hU2.setRow _ _ (by omega)
  · have e : valueOf m n i = iterOf m (n - i) := by unfold valueOf; rw [if_neg hbad]
    rw [e]
    have h' : mayRide n = true := by simp only [not_or] at hbad; simpa using hbad.1
    have hn : 1 ≤ n ∧ n ≤ 4096 := by simpa [mayRide] using h'
    obtain ⟨N, rfl⟩ : ∃ N : Nat, n = N := ⟨n.toNat, by omega⟩
    obtain ⟨I, rfl⟩ : ∃ I : Nat, i = I := ⟨i.toNat, by omega⟩
    have hIN : I ≤ N := by omega
    have hN : 1 ≤ N ∧ N ≤ 4096 := by omega
    have q1 : ¬ ((I : Int) < 0) := by omega
    have q2 : ¬ ((N : Int) < (I : Int)) := by omega
    have q3 : ¬ ((N : Int) < 1) := by omega
    have q4 : ¬ ((4096 : Int) < (N : Int)) := by omega
    clear hbad e hn
    obtain ⟨r, hr⟩ : ∃ r, iterOf m ((N : Int) - I) = r := ⟨_, rfl⟩
    have hrl := hIL ((N : Int) - I)
    have hit := fun w => HIT.out w ((N : Int) - I)
    rw [hr] at hrl hit ⊢
    obtain ⟨R, b⟩ := r
    obtain ⟨cs, hcs⟩ : ∃ cs, (m.map U8).toArray = cs := ⟨_, rfl⟩
    have hs1 := size_of32 hm
    rw [hcs] at hit hs1 ⊢
    have hs2 := size_of32 hrl
    have ho := same_size32 hrl
    have ha := one_of32 R
    have HI := Lib.hid hit
    clear hit hr hIL hcs
    have HG := Lib.hid hg
    have HF := Lib.hid hf
    clear hg hf
    go_enter Tryd.func9, Tryd.ntmps9
    go_upto_region 2 with (fail)
    generalize hw2 : World.alloc (World.alloc w _) _ = w2
    have hU2 : Upd [] w w2 := by rw [← hw2]; exact ((Upd.refl _ w).alloc _).alloc _
    have h1 : w2.heap[B]? = some (.cells cs 23 (0, 0)) := by rw [← hw2]; exact hget_old (hget_new hB.symm)
    have h2 : w2.heap[B + 1]? = some (.cells (zrow8 32) 23 (0, 0)) := by rw [← hw2]; exact hget_new (by simp [hB])
    clear hw2
    go_wp2_with (first
      | (go_at_call 15; refine (rides_ _ N).mono ?_; rintro e w3 ⟨rfl, rfl⟩; rw [h']) | (refine wpList_load_row rfl 23 _ rfl B rfl 23 _ (0, 0) _ h1 Tryd.underlying23 rfl hs1 ?_)
      | (go_at_call 19; refine (HI.out _ (HG.out.upd hU2 (by simp)) (HF.out.upd hU2 (by simp))).mono ?_; rintro e w4 ⟨rfl, hU4⟩)
      | (refine wpList_store_row rfl 23 _ _ rfl (B + 1) _ rfl rfl 23 _ (hU4.heap h2 (by simp)) hs2 ho ha ?_))
    refine bodyPost_ret (v := .tuple #[.agg (R.map U8).toArray, .bool b]) (results_agg_tmp (p := 6) (u := 7) rfl _ _ (B + 1) 23 _ (0, 0) _ rfl (setRow_heap w4 (B + 1) _ _ 23 (0, 0) (hU4.heap h2 (by simp))) Tryd.underlying23 rfl hs2) rfl ⟨rfl, ?_⟩
    exact (hU2.trans hU4).setRow _ _ (by omega)
end Go.Proofs.YtaphbkkklapdaaaDoor
