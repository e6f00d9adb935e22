/-
  chain.Step and the document's Step: the hash of the value.
-/
import Derived.Test.YtaphbkkklapdaaaDoorRefSum256
import Derived.Test.YtaphbkkklapdaaaDoorEqHash
namespace Go.Proofs.YtaphbkkklapdaaaDoor
open Go Go.RowKit Go.Proofs
/-- so many hashes -/
def steps (m : List (BitVec 8)) : Nat → List (BitVec 8)
  | 0 => m
  | n + 1 => sha256 (steps m n)
theorem steps_length (m : List (BitVec 8)) (h : m.length = 32) : ∀ n, (steps m n).length = 32
  | 0 => h
  | _ + 1 => sha256_length _
theorem steps_front (m : List (BitVec 8)) : ∀ n, steps (sha256 m) n = steps m (n + 1)
  | 0 => rfl
  | n + 1 => by rw [steps, steps_front m n]; rfl
theorem steps_add (m : List (BitVec 8)) (a : Nat) : ∀ b, steps (steps m a) b = steps m (a + b)
  | 0 => rfl
  | b + 1 => by rw [steps, steps_add m a b]; rfl
theorem rd_row {w : World} {b : Nat} {m : List (BitVec 8)} {T : TypeId} {fr : Nat × Nat} (hb : w.heap[b]? = some (.cells (m.map U8).toArray T fr)) (hm : m.length = 32) : RdB w (.slice (some ⟨b, 0, none⟩) 32 32) m := by
  have h := RdB.mk (c := 32) (l := m) (by omega) (by simp [maxLen]) (Bytes.of_row hb m 0 (fun i hi => by simp [hi]))
  rwa [hm] at h
set_option maxRecDepth 100000 in
set_option maxHeartbeats 3200000 in
theorem step_ (w : World) (m : List (BitVec 8)) (hm : m.length = 32) (hg : Gl256 w) (hf : GlFirst256 w) :
    Calls Tryd.prog 11 #[.agg (m.map U8).toArray] w fun e w' => e = .returned (.agg ((sha256 m).map U8).toArray) ∧ Upd [] w w' := by
  obtain ⟨H, hH⟩ : ∃ H, sha256 m = H := ⟨_, rfl⟩
  have hHl : H.length = 32 := by rw [← hH]; exact sha256_length m
  have hsum := fun w v h1 h3 h4 => sum256 w v m h1 (by omega) h3 h4
  rw [hH] at hsum ⊢
  obtain ⟨cs, hcs⟩ : ∃ cs, (m.map U8).toArray = cs := ⟨_, rfl⟩
  rw [hcs]
  have HSUM := Lib.hid hsum
  have HCS := Lib.hid hcs
  have HG := Lib.hid hg
  have HF := Lib.hid hf
  clear hsum hcs hg hf hH
  go_enter Tryd.func11, Tryd.ntmps11
  obtain ⟨B, hB⟩ : ∃ B, w.heap.size = B := ⟨_, rfl⟩
  go_upto_region 2 with (fail)
  generalize hw2 : World.alloc (World.alloc w _) _ = w2
  have hU2 : Upd [] w w2 := by rw [← hw2]; exact ((Upd.refl _ w).alloc _).alloc _
  have h1 : w2.heap[B]? = some (.cells cs 23 (0, 0)) := by rw [← hw2]; exact hget_old (hget_new hB.symm)
  have h2 : w2.heap[B + 1]? = some (.cells (zrow8 32) 23 (0, 0)) := by rw [← hw2]; exact hget_new (by simp [hB])
  rw [← HCS.out] at h1
  have hs : (Tryd.prog.info? 23).map (·.size) = some ((H.map U8).toArray).size := by simp only [List.size_toArray, List.length_map, hHl]; exact size_h32
  have ho : (zrow8 32).size = ((H.map U8).toArray).size := by simp only [List.size_toArray, List.length_map, hHl, zrow8_size]
  have ha : ((H.map U8).toArray).all (·.oneCell') = true := by simp
  go_wp2_with (first
    | (go_at_call 12; refine (HSUM.out _ _ (rd_row h1 hm) (HG.out.upd hU2 (by simp)) (HF.out.upd hU2 (by simp))).mono ?_; rintro e w3 ⟨rfl, hU3⟩)
    | (refine wpList_store_row rfl 23 _ _ rfl (B + 1) _ rfl rfl 23 _ (hU3.heap h2 (by simp)) hs ho ha ?_))
  refine bodyPost_ret (v := .agg (H.map U8).toArray) (results_cell_row rfl _ _ (B + 1) 23 _ (0, 0) _ rfl (setRow_heap w3 (B + 1) _ _ 23 (0, 0) (hU3.heap h2 (by simp))) Tryd.underlying23 rfl hs) rfl ⟨rfl, ?_⟩
  exact (hU2.trans hU3).setRow _ _ (by omega)
set_option maxRecDepth 100000 in
set_option maxHeartbeats 3200000 in
theorem refstep (w : World) (m : List (BitVec 8)) (hm : m.length = 32) :
    Calls Tryd.prog 17 #[.agg (m.map U8).toArray] w fun e w' => e = .returned (.agg ((sha256 m).map U8).toArray) ∧ Upd [] w w' := by
  obtain ⟨H, hH⟩ : ∃ H, sha256 m = H := ⟨_, rfl⟩
  have hHl : H.length = 32 := by rw [← hH]; exact sha256_length m
  have hsum := fun w v h1 => refsum256 w v m h1 (by omega)
  rw [hH] at hsum ⊢
  obtain ⟨cs, hcs⟩ : ∃ cs, (m.map U8).toArray = cs := ⟨_, rfl⟩
  rw [hcs]
  have HSUM := Lib.hid hsum
  have HCS := Lib.hid hcs
  clear hsum hcs hH
  go_enter Tryd.func17, Tryd.ntmps17
  obtain ⟨B, hB⟩ : ∃ B, w.heap.size = B := ⟨_, rfl⟩
  go_upto_region 2 with (fail)
  generalize hw2 : World.alloc (World.alloc w _) _ = w2
  have hU2 : Upd [] w w2 := by rw [← hw2]; exact ((Upd.refl _ w).alloc _).alloc _
  have h1 : w2.heap[B]? = some (.cells cs 23 (0, 0)) := by rw [← hw2]; exact hget_old (hget_new hB.symm)
  have h2 : w2.heap[B + 1]? = some (.cells (zrow8 32) 23 (0, 0)) := by rw [← hw2]; exact hget_new (by simp [hB])
  rw [← HCS.out] at h1
  have hs : (Tryd.prog.info? 23).map (·.size) = some ((H.map U8).toArray).size := by simp only [List.size_toArray, List.length_map, hHl]; exact size_h32
  have ho : (zrow8 32).size = ((H.map U8).toArray).size := by simp only [List.size_toArray, List.length_map, hHl, zrow8_size]
  have ha : ((H.map U8).toArray).all (·.oneCell') = true := by simp
  go_wp2_with (first
    | (go_at_call 25; refine (HSUM.out _ _ (rd_row h1 hm)).mono ?_; rintro e w3 ⟨rfl, hU3⟩)
    | (refine wpList_store_row rfl 23 _ _ rfl (B + 1) _ rfl rfl 23 _ (hU3.heap h2 (by simp)) hs ho ha ?_))
  refine bodyPost_ret (v := .agg (H.map U8).toArray) (results_cell_row rfl _ _ (B + 1) 23 _ (0, 0) _ rfl (setRow_heap w3 (B + 1) _ _ 23 (0, 0) (hU3.heap h2 (by simp))) Tryd.underlying23 rfl hs) rfl ⟨rfl, ?_⟩
  exact (hU2.trans hU3).setRow _ _ (by omega)
end Go.Proofs.YtaphbkkklapdaaaDoor
