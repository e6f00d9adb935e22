/-
  The law Sha512Folds: for every message it returns true and makes only new memory.
-/
import Derived.Test.YtdejiachopiaaabDoorFolded512
import Derived.Test.YtdejiachopiaaabDoorKnown512
import Derived.Test.YtdejiachopiaaabDoorSum512
import Derived.Test.YtdejiachopiaaabDoorEqWide
import Derived.Test.YtdejiachopiaaabDoorMid
import Derived.Lib.SlBytesConst
import Derived.Deep.RegionHeld3
import Derived.Deep.DrawnRows
namespace Go.Proofs.YtdejiachopiaaabDoor
open Go Go.RowKit Go.Proofs
attribute [local go_sem ↓] Go.wp_at_zero Go.wp_at_succ
theorem range_upd {w w' : World} {b o : Nat} {cs : List Value} (h : w.rangeAt b o cs) (u : Upd [] w w') : w'.rangeAt b o cs := fun j v hj => u.cell (h j v hj) (by simp)
set_option maxRecDepth 100000 in
set_option maxHeartbeats 6400000 in
theorem law_folds512 (w : World) (v : Value) (m : List (BitVec 8)) (hv : RdB w v m) (hg : Gl512 w) (hf : GlFirst512 w) (hf3 : GlFirstL3 w) :
    Calls Tryd.prog 5 #[v] w fun e w' => e = .returned (.bool true) ∧ Upd [] w w' := by
  obtain ⟨A, c, rfl, hc1, hc2⟩ := hv.isSlice
  obtain ⟨n, hn⟩ : ∃ n, m.length = n := ⟨_, rfl⟩
  have HV := Lib.hid hv
  have HG := Lib.hid hg
  have HF := Lib.hid hf
  have HF3 := Lib.hid hf3
  rw [hn] at hc1 ⊢
  have HN := Lib.hid hn
  clear hv hg hf hf3 hn
  by_cases hbig : 200000 < n
  · go_enter Tryd.func5, Tryd.ntmps5
    go_wp2
    go_ret
    exact ⟨rfl, Upd.refl _ _⟩
  · have hn2 : n ≤ 200000 := by omega
    obtain ⟨H, hH⟩ : ∃ H, sha512 m = H := ⟨_, rfl⟩
    have hHl : H.length = 64 := by rw [← hH]; exact sha512_length m
    have hs1 := fun w v h1 h3 h4 => sum512 w v m h1 (by have := HN.out; omega) h3 h4
    have hs2 := fun w v h1 h3 h4 => folded512 w v m h1 (by have := HN.out; omega) h3 h4
    have hs3 := fun w v h1 h3 h4 => sum512 w v abc h1 (by simp [abc]) h3 h4
    rw [hH] at hs1 hs2
    rw [sha512_abc] at hs3
    obtain ⟨K, hK⟩ : ∃ K, abcWide = K := ⟨_, rfl⟩
    have hKl : K.length = 64 := by rw [← hK]; rfl
    have hK0 : K[0]? = some 221 := by rw [← hK]; rfl
    have hK63 : K[63]? = some 159 := by rw [← hK]; rfl
    rw [hK] at hs3
    have S1 := Lib.hid hs1
    have S2 := Lib.hid hs2
    have S3 := Lib.hid hs3
    have hq2 := eql_wide H hHl
    have hgd := guard_w64
    have hs : (Tryd.prog.info? 23).map (·.size) = some ((H.map U8).toArray).size := by simp only [List.size_toArray, List.length_map, hHl]; exact size_w64b
    have ho : (zrow8 64).size = ((H.map U8).toArray).size := by simp only [List.size_toArray, List.length_map, hHl, zrow8_size]
    have hal : ((H.map U8).toArray).all (·.oneCell') = true := by simp
    have hsK : (Tryd.prog.info? 23).map (·.size) = some ((K.map U8).toArray).size := by simp only [List.size_toArray, List.length_map, hKl]; exact size_w64b
    have hoK : (zrow8 64).size = ((K.map U8).toArray).size := by simp only [List.size_toArray, List.length_map, hKl, zrow8_size]
    have halK : ((K.map U8).toArray).all (·.oneCell') = true := by simp
    have kc := fun (w : World) (C : Array Value) (n c : Nat) => Lib.run_convert_bytes_const (P := Tryd.prog) w 25 5 C n c Tryd.underlying25 Tryd.underlying5
    have HUa : Hid (Upd [] w (w.alloc (.cells #[U8 97, U8 98, U8 99] 5 (3, 4)))) := (Upd.refl [] w).alloc _
    have HRa : Hid (RdB (w.alloc (.cells #[U8 97, U8 98, U8 99] 5 (3, 4))) (.slice (some ⟨w.heap.size, 0, none⟩) 3 3) abc) := rd_abc _ _ _ _ (hget_new rfl) rfl
    clear hs1 hs2 hs3 hH hK hbig
    go_enter Tryd.func5, Tryd.ntmps5
    go_upto_region 4 with (first
      | (go_at_call 7; refine (S3.out _ _ HRa.out (HG.out.upd HUa.out (by simp)) (HF.out.upd HUa.out (by simp))).mono ?_; rintro e w1 ⟨rfl, hU1⟩)
      | (refine wpList_store_row rfl 23 _ _ rfl _ (K.map U8).toArray rfl rfl 23 _ (hget_new rfl) hsK hoK halK ?_))
    go_simp
    obtain ⟨T3, hT3⟩ : ∃ T, w1.heap.size = T := ⟨_, rfl⟩
    generalize hw2 : World.setRow (World.alloc w1 _) _ _ = w2
    have h2 : w2.heap[T3]? = some (.cells (K.map U8).toArray 23 (0, 0)) := by rw [← hw2, hT3]; exact setRow_heap _ _ _ _ 23 (0, 0) (hget_new hT3.symm)
    have hU2 : Upd [] w w2 := by rw [← hw2]; exact ((HUa.out.trans hU1).alloc _).setRow _ _ (by have := HUa.out.size; have := hU1.size; simp at this; omega)
    rw [hT3]
    have H2 := Lib.hid h2
    clear hw2 hT3 h2 hU1 hsK hoK halK
    go_upto_region 5 with (first
      | (go_at_call 11; refine (S2.out _ _ (by have := HV.out.upd0 hU2; rw [HN.out] at this; exact this) (HG.out.upd hU2 (by simp)) (HF3.out.upd hU2 (by simp))).mono ?_; rintro e w3 ⟨rfl, hU3⟩)
      | (refine wpList_store_row rfl 23 _ _ rfl _ (H.map U8).toArray rfl rfl 23 _ (hget_new rfl) hs ho hal ?_))
    go_simp
    obtain ⟨T4, hT4⟩ : ∃ T, w3.heap.size = T := ⟨_, rfl⟩
    generalize hw4 : World.setRow (World.alloc w3 _) _ _ = w4
    have h4 : w4.heap[T4]? = some (.cells (H.map U8).toArray 23 (0, 0)) := by rw [← hw4, hT4]; exact setRow_heap _ _ _ _ 23 (0, 0) (hget_new hT4.symm)
    have h43 : T3 < T4 := by have := lt_of_heap (hU3.heap H2.out (by simp)); omega
    have h4K : w4.heap[T3]? = some (.cells (K.map U8).toArray 23 (0, 0)) := by rw [← hw4, setRow_other _ _ _ _ (by omega)]; exact hget_old (hU3.heap H2.out (by simp))
    have hU4 : Upd [] w w4 := by rw [← hw4]; exact ((hU2.trans hU3).alloc _).setRow _ _ (by have := hU2.size; have := hU3.size; omega)
    rw [hT4]
    have hrg : w4.rangeAt T4 0 (H.map U8) := range_of_row h4 0 _ ⟨[], [], by simp, rfl⟩
    have hc0 : w4.cell? ⟨T3, 0, none⟩ = some (U8 221) := by rw [cell_of_row _ _ _ _ _ _ h4K]; simp [hK0]
    have hc63 : w4.cell? ⟨T3, 63, none⟩ = some (U8 159) := by rw [cell_of_row _ _ _ _ _ _ h4K]; simp [hK63]
    clear hw4 hT4 h4 h4K hU2 hU3 hs ho hal kc
    have hu23 := Tryd.underlying23
    have hi23 : (Tryd.prog.info? 23).map (·.size) = some (H.map U8).length := by rw [List.length_map, hHl]; exact size_w64b
    have hl23 : (H.map U8).length = 64 := by rw [List.length_map, hHl]
    have ho23 : ∀ v ∈ H.map U8, v.oneCell' = true := fun v hv => by obtain ⟨y, _, rfl⟩ := List.mem_map.1 hv; rfl
    have HKS : Hid (∀ w w', (World.rangeAt w T4 0 (H.map U8) ∧ w.cell? ⟨T3, 0, none⟩ = some (U8 221) ∧ w.cell? ⟨T3, 63, none⟩ = some (U8 159)) → Upd [] w w' → (World.rangeAt w' T4 0 (H.map U8) ∧ w'.cell? ⟨T3, 0, none⟩ = some (U8 221) ∧ w'.cell? ⟨T3, 63, none⟩ = some (U8 159))) := fun w w' h u =>
      ⟨range_upd h.1 u, u.cell h.2.1 (by simp), u.cell h.2.2 (by simp)⟩
    go_region_held3 (fun w' => w'.rangeAt T4 0 (H.map U8) ∧ w'.cell? ⟨T3, 0, none⟩ = some (U8 221) ∧ w'.cell? ⟨T3, 63, none⟩ = some (U8 159)) (first | exact HKS.out _ _ (by assumption) (by assumption) | exact HKS.out _ _ (by assumption) ((Upd.refl [] _).drew.trans (by assumption)) | exact HKS.out _ _ ⟨hrg, hc0, hc63⟩ (Upd.refl [] _).drew | go_keep_ranges) (first
      | (go_at_call 7; refine (S1.out _ _ (by have := HV.out.upd0 hU4.drew; rw [HN.out] at this; exact this) (HG.out.upd hU4.drew (by simp)) (HF.out.upd hU4.drew (by simp))).mono ?_; rintro e w5 ⟨rfl, hU5⟩))
    go_wp2
    go_ret
    exact ⟨rfl, hU4.drew.trans hU5⟩
end Go.Proofs.YtdejiachopiaaabDoor
