/-
  The law Sha512Pieces: for all pieces and every number it returns true and makes only new memory.
-/
import Derived.Test.YtdejiachopiaaabDoorKnown512
import Derived.Test.YtdejiachopiaaabDoorSum512
import Derived.Test.YtdejiachopiaaabDoorEqWide
import Derived.Test.YtdejiachopiaaabDoorMid
import Derived.Test.YtdejiachopiaaabDoorOpenRows
import Derived.Lib.SlBytesConst
import Derived.Deep.RegionHeld3
import Derived.Deep.DrawnRows
namespace Go.Proofs.YtdejiachopiaaabDoor
open Go Go.RowKit Go.Proofs
attribute [local go_sem ↓] Go.wp_at_zero Go.wp_at_succ
theorem rng_upd {w w' : World} {b o : Nat} {cs : List Value} (h : w.rangeAt b o cs) (u : Upd [] w w') : w'.rangeAt b o cs := fun j v hj => u.cell (h j v hj) (by simp)
/-- a row of bytes and a Digest lie in different blocks -/
theorem own_dig512 {w : World} {B D : Nat} {v : Value} {l m : List (BitVec 8)} (h : OwnB w B v l) (hd : DigOf512 w D m) : v.ownBlock ≠ some D := by
  obtain ⟨s, r, ⟨_, hb⟩, _⟩ := hd
  rcases h.2 with ⟨rfl, _⟩ | ⟨g, cap, cur, rfl, _, hg, _⟩
  · simp [Value.ownBlock]
  · intro he
    simp [Value.ownBlock] at he
    subst he
    rw [hg] at hb
    injection hb with hb
    injection hb with _ ht
    exact absurd ht (by decide)
theorem DigOf512.lt {w : World} {D : Nat} {m : List (BitVec 8)} (h : DigOf512 w D m) : D < w.heap.size := by obtain ⟨_, _, ⟨_, h⟩, _⟩ := h; exact lt_of_heap h
theorem wide_cells (K : List (BitVec 8)) (h : K.length = 64) : (Tryd.prog.info? 23).map (·.size) = some ((K.map U8).toArray).size ∧ (zrow8 64).size = ((K.map U8).toArray).size ∧ ((K.map U8).toArray).all (·.oneCell') = true :=
  ⟨by simp only [List.size_toArray, List.length_map, h]; exact size_w64b, by simp only [List.size_toArray, List.length_map, h, zrow8_size], by simp⟩
set_option maxRecDepth 100000 in
set_option maxHeartbeats 12800000 in
theorem law_pieces512 (w : World) (v : Value) (ls : List (List (BitVec 8))) (ak : Int) (hv : RdRows w v ls) (hls : ∀ l ∈ ls, l.length ≤ 140737488351232) (hg : Gl512 w) (hf : GlFirst512 w) :
    Calls Tryd.prog 6 #[v, .int .i64 ak] w fun e w' => e = .returned (.bool true) ∧ Upd [] w w' := by
  have hs3 := fun w v h1 h3 h4 => sum512 w v abc h1 (by simp [abc]) h3 h4
  rw [sha512_abc] at hs3
  obtain ⟨K, hK⟩ : ∃ K, abcWide = K := ⟨_, rfl⟩
  have hKl : K.length = 64 := by rw [← hK]; rfl
  have hK0 : K[0]? = some 221 := by rw [← hK]; rfl
  rw [hK] at hs3
  have S3 := Lib.hid hs3
  have hgd := guard_w64
  have kc := fun (w : World) (C : Array Value) (n c : Nat) => Lib.run_convert_bytes_const (P := Tryd.prog) w 25 5 C n c Tryd.underlying25 Tryd.underlying5
  obtain ⟨A, cap, rfl, hcap1, hcap2, hrows⟩ := hv
  obtain ⟨n, hn⟩ : ∃ n, ls.length = n := ⟨_, rfl⟩
  have hrow : ∀ k (h : k < ls.length), ∃ g p, A = some ⟨g, p, none⟩ ∧ ∃ A2 c2, (∀ w', Upd [] w w' → w'.cell? ⟨g, p + k, none⟩ = some (.slice A2 (ls[k]).length c2) ∧ RdB w' (.slice A2 (ls[k]).length c2) ls[k]) ∧ (ls[k]).length ≤ 140737488351232 := by
    intro k h
    obtain ⟨g, p, rfl, hc⟩ := hrows (by omega)
    obtain ⟨vi, h1, h2⟩ := hc k h
    obtain ⟨A2, c2, rfl, _, _⟩ := h2.isSlice
    exact ⟨g, p, rfl, A2, c2, fun w' hu => ⟨hu.cell h1 (by simp), h2.upd0 hu⟩, hls _ (List.getElem_mem h)⟩
  rw [hn] at hcap1 ⊢
  have HR := Lib.hid hrow
  have HG := Lib.hid hg
  have HF := Lib.hid hf
  have HN := Lib.hid hn
  have hglt := hg.lt'
  obtain ⟨B, hB⟩ : ∃ B, w.heap.size = B := ⟨_, rfl⟩
  have HB := Lib.hid hB
  rw [hB] at hglt
  clear hs3 hK hrows hrow hg hf hn hls hB
  go_enter Tryd.func6, Tryd.ntmps6
  go_upto_region 5 with (go_at_call 12; refine (newof512 _ HF.out).mono ?_; rintro e w1 ⟨rfl, hD1, hU1⟩)
  rw [HB.out] at hD1 ⊢
  go_wp2
  go_loopw [5, 6, 7] (fun x dv i wr => ∃ k D W, k ≤ n ∧ i = .int .i64 (k : Nat) ∧ dv = .pointer (some ⟨D, 0, none⟩) ∧ B ≤ D ∧ W = (ls.take k).flatten ∧ W.length ≤ 200000 ∧ OwnB wr B x W ∧ DigOf512 wr D W ∧ Upd [] w wr) (fun _ _ i _ => n - (intOf i).toNat)
  case atStart => exact ⟨0, B, [], by omega, rfl, rfl, Nat.le_refl _, rfl, by simp, OwnB.nil _ _, hD1, hU1⟩
  case round =>
    clear hD1 hU1
    obtain ⟨k, D, W, hk, rfl, rfl, hBD, hW, hWl, hX, hDg, hU⟩ := hrel
    obtain ⟨bw, cw, rfl⟩ := hX.isSlice
    have HW := Lib.hid hW
    clear hW
    by_cases hlt : k < n
    · obtain ⟨g, p, rfl, A2, c2, hc, hml⟩ := HR.out k (by have := HN.out; omega)
      obtain ⟨L, hL⟩ : ∃ L, ls[k]'(by have := HN.out; omega) = L := ⟨_, rfl⟩
      rw [hL] at hc hml
      have hWL : (ls.take (k + 1)).flatten = W ++ L := by
        rw [List.take_succ_eq_append_getElem (by have := HN.out; omega), List.flatten_append, HW.out, hL]; simp
      obtain ⟨hc0, hr0⟩ := hc _ hU
      have HC := Lib.hid hc
      have HWL := Lib.hid hWL
      have hki : (k : Int) < (n : Int) := by omega
      have hkn : (n : Int) ≤ 9223372036854775807 := by unfold maxLen at hcap2; omega
      clear hc hL hWL
      by_cases hbig : 200000 < W.length + L.length ∨ 400 < k
      · by_cases hbig1 : 200000 < W.length + L.length
        · have hb1 : (200000 : Int) < (W.length : Int) + (L.length : Int) := by omega
          clear hbig hbig1
          go_wp2
          go_ret
          exact ⟨rfl, hU⟩
        · have hb1 : ¬ (200000 : Int) < (W.length : Int) + (L.length : Int) := by omega
          have hb2 : (400 : Int) < (k : Int) := by omega
          clear hbig hbig1
          go_wp2
          go_ret
          exact ⟨rfl, hU⟩
      · have hb1 : ¬ (200000 : Int) < (W.length : Int) + (L.length : Int) := by omega
        have hb2 : ¬ (400 : Int) < (k : Int) := by omega
        have hsm : W.length + L.length ≤ 200000 := by omega
        have HR0 := Lib.hid hr0
        clear hbig hr0
        go_upto_region 11 with (at_builtin; refine append_rd rfl _ _ rfl B _ W (by rfl) hX _ L (by rfl) HR0.out (by omega) (by have := HB.out; have := hU.size; omega) ?_; intro v2 w2 hO2 _ hU2 _)
        have hU3 : Upd [] w w2 := hU.row hU2 (fun g hg => by have := (hX.lt g hg).1; have := HB.out; omega)
        have hD2 := hDg.upd hU2 (fun hm => own_dig512 hX hDg (by simpa using hm))
        have hc2' := (HC.out _ hU3).1
        have HR2 := Lib.hid (HC.out _ hU3).2
        clear hX hU hU2 hDg hc0 HR0
        go_wp2_with fail
        refine (write512 _ D _ W L hD2 HR2.out (fun h0 h => by have := (HC.out _ (Upd.refl _ _)).2.lt h0 D h; have := HB.out; omega) (by omega) (HG.out.upd hU3 (by simp)) (by omega)).mono ?_
        rintro e3 w3 ⟨⟨y3, rfl⟩, hD3, hU4⟩
        have hO3 := hO2.upd hU4 (fun j hj hm => own_dig512 hO2 hD2 (by rw [hj]; simp at hm; rw [hm]))
        have hU5 : Upd [] w w3 := hU3.trans' hU4 (fun i hi hl => by simp at hi; have := HB.out; omega)
        obtain ⟨M, hM⟩ : ∃ M, W ++ L = M := ⟨_, rfl⟩
        have hMl : M.length ≤ 200000 := by rw [← hM, List.length_append]; omega
        rw [hM] at hO3 hD3
        have HM := Lib.hid hM
        clear hO2 hD2 hU3 hU4 hc2' HR2 hM
        by_cases hask : (k : Int) = ak
        · have hask' : ((k : Int) == ak) = true := by rw [beq_iff_eq]; exact hask
          have HASK := Lib.hid hask
          clear hask
          obtain ⟨H, hH⟩ : ∃ H, sha512 M = H := ⟨_, rfl⟩
          have hHl : H.length = 64 := by rw [← hH]; exact sha512_length M
          have hs1 := fun w b h1 h2 => digsum512 w b M h1 h2
          rw [hH] at hs1
          have S1 := Lib.hid hs1
          have hq1 := neq_wide H hHl
          obtain ⟨hsH, hoH, halH⟩ := wide_cells H hHl
          have HD3 := Lib.hid hD3
          have HO3 := Lib.hid hO3
          have hDl := hD3.lt
          have hg5 := HG.out.upd hU5 (by simp)
          have HG5 := Lib.hid hg5
          clear hs1 hH hD3 hO3 hg5
          go_upto_region 14 with (first
            | (go_at_call 14; refine (S1.out _ _ HD3.out HG5.out).mono ?_; rintro e4 w4 ⟨rfl, hU6⟩)
            | (refine wpList_store_row rfl 23 _ _ rfl _ (H.map U8).toArray rfl rfl 23 _ (hget_new rfl) hsH hoH halH ?_))
          go_simp
          obtain ⟨T8, hT8⟩ : ∃ T, w4.heap.size = T := ⟨_, rfl⟩
          generalize hw5 : World.setRow (World.alloc w4 _) _ _ = w5
          have h8 : w5.heap[T8]? = some (.cells (H.map U8).toArray 23 (0, 0)) := by rw [← hw5, hT8]; exact setRow_heap _ _ _ _ 23 (0, 0) (hget_new hT8.symm)
          have hU7 : Upd [] w3 w5 := by rw [← hw5]; exact (hU6.alloc _).setRow _ _ (by have := hU6.size; omega)
          have hDT : D < T8 := by have := hU6.size; omega
          rw [hT8]
          have hD5 := HD3.out.upd hU7 (by simp)
          have hO5 := HO3.out.upd0 hU7
          have H8 := Lib.hid h8
          have hU8 := hU5.trans hU7
          clear hw5 hT8 h8 hU6 hU7 hsH hoH halH HD3 HO3 HG5 hU5
          go_wp2_with fail
          refine (cloneof512 _ D M hD5).mono ?_
          rintro e6 w6 ⟨rfl, hC6, hU9⟩
          obtain ⟨C, hC⟩ : ∃ C, w5.heap.size = C := ⟨_, rfl⟩
          have hTC : T8 < C := by have := lt_of_heap H8.out; omega
          rw [hC] at hC6 ⊢
          have hD6 := hD5.upd hU9 (by simp)
          have hO6 := hO5.upd0 hU9
          have h86 := hU9.heap H8.out (by simp)
          have hU10 := hU8.trans hU9
          have hCl := hC6.lt
          clear hC H8 hU8 hU9 hD5 hO5
          go_wp2_with fail
          have hrd : RdB (w6.alloc (.cells #[U8 1, U8 2, U8 3] 5)) (.slice (some ⟨w6.heap.size, 0, none⟩) 3 3) [1, 2, 3] := RdB.mk (l := [1, 2, 3]) (by simp) (by simp [maxLen]) (Bytes.of_row (hget_new rfl) [1, 2, 3] 0 (fun i hi => by
            match i, hi with
            | 0, _ => rfl
            | 1, _ => rfl
            | 2, _ => rfl))
          have hUa : Upd [] w6 (w6.alloc (.cells #[U8 1, U8 2, U8 3] 5)) := (Upd.refl [] w6).alloc _
          refine (write512 _ D _ M [1, 2, 3] (hD6.upd hUa (by simp)) hrd (by intro _ h; simp [Value.ownBlock] at h; omega) (by simp) (HG.out.upd (hU10.trans hUa) (by simp)) (by omega)).mono ?_
          rintro e7 w7 ⟨⟨y7, rfl⟩, hD7, hU11⟩
          have hC7 := (hC6.upd hUa (by simp)).upd hU11 (by simp; omega)
          have hO7 := (hO6.upd0 hUa).upd hU11 (fun j hj hm => own_dig512 hO6 hD6 (by rw [hj]; simp at hm; rw [hm]))
          have h87 := hU11.heap (hUa.heap h86 (by simp)) (by simp; omega)
          have hU12 : Upd [] w w7 := (hU10.trans hUa).trans' hU11 (fun i hi hl => by simp at hi; have := HB.out; omega)
          have HC7 := Lib.hid hC7
          have HO7 := Lib.hid hO7
          have hR8 : ∀ w', Upd [] w7 w' → ∃ t fr, w'.heap[T8]? = some (.cells (H.map U8).toArray t fr) := fun w' h => ⟨_, _, h.heap h87 (by simp)⟩
          have HR8 := Lib.hid hR8
          have hsz8 : (Tryd.prog.info? 23).map (·.size) = some ((H.map U8).toArray).size := (wide_cells H hHl).1
          have hg7 := HG.out.upd hU12 (by simp)
          have HG7 := Lib.hid hg7
          clear hR8 hg7 hC6 hC7 hO6 hO7 h86 h87 hUa hU10 hU11 hD6 hD7 hrd
          go_upto_region 17 with (fail)
          refine wp_region_quiet_all (Upd [] w7) (by kernel_rfl) (by kernel_rfl) (Upd.refl _ _).drew ?_
          repeat (first
            | (refine wpQuiet_val rfl (quiet_load_row 23 _ rfl T8 rfl _ HR8.out Tryd.underlying23 rfl hsz8) ?_)
            | (refine wpQuiet_step (fun K hK => ?_)
               go_simp
               first
                 | (refine ⟨_, fun _ _ => rfl, hK _ ?_⟩; clear hK K)
                 | (refine ⟨_, fun w2 hw2 => (S1.out w2 _ (HC7.out.upd hw2 (by simp)) (HG7.out.upd hw2 (by simp))).mono (fun e w' h => ⟨h.1, hw2.trans h.2⟩), hK _ ?_⟩; clear hK K)
                 | (refine hK _ ?_; clear hK K)))
          refine wpQuiet_nil ?_
          intro w8 hU13
          have hU14 := hU12.trans hU13
          have hO8 := HO7.out.upd0 hU13
          have hC8 := HC7.out.upd hU13 (by simp)
          go_wp2
          go_roundw
          case rel => exact ⟨k + 1, C, M, by omega, by go_num, rfl, by omega, by rw [HWL.out, HM.out], hMl, hO8, hC8, hU14⟩
          case measure => simp [intOf]; omega
        · have hask' : ((k : Int) == ak) = false := by rw [beq_eq_false_iff_ne]; exact hask
          clear hask
          go_wp2
          go_roundw
          case rel => exact ⟨k + 1, D, M, by omega, by go_num, rfl, hBD, by rw [HWL.out, HM.out], hMl, hO3, hD3, hU5⟩
          case measure => simp [intOf]; omega
    · obtain rfl : k = n := by omega
      have hki : ¬ (k : Int) < (k : Int) := by omega
      obtain ⟨H, hH⟩ : ∃ H, sha512 W = H := ⟨_, rfl⟩
      have hHl : H.length = 64 := by rw [← hH]; exact sha512_length W
      have hs1 := fun w b h1 h2 => digsum512 w b W h1 h2
      have hs2 := fun w v h1 h3 h4 => sum512 w v W h1 (by omega) h3 h4
      rw [hH] at hs1 hs2
      have S1 := Lib.hid hs1
      have S2 := Lib.hid hs2
      have hq1 := neq_wide H hHl
      have hq2 := eql_wide H hHl
      obtain ⟨hsH, hoH, halH⟩ := wide_cells H hHl
      obtain ⟨hsK, hoK, halK⟩ := wide_cells K hKl
      have hrd := hX.rd
      have HRD := Lib.hid hrd
      have HX := Lib.hid hX
      have HD := Lib.hid hDg
      have hDl := hDg.lt
      clear hs1 hs2 hH hX hDg hrd hlt
      go_upto_region 20 with (first
        | (go_at_call 7; refine (S2.out _ _ HRD.out (HG.out.upd hU (by simp)) (HF.out.upd hU (by simp))).mono ?_; rintro e4 w4 ⟨rfl, hU6⟩)
        | (refine wpList_store_row rfl 23 _ _ rfl _ (H.map U8).toArray rfl rfl 23 _ (hget_new rfl) hsH hoH halH ?_))
      go_simp
      obtain ⟨T10, hT10⟩ : ∃ T, w4.heap.size = T := ⟨_, rfl⟩
      generalize hw5 : World.setRow (World.alloc w4 _) _ _ = w5
      have h5 : w5.heap[T10]? = some (.cells (H.map U8).toArray 23 (0, 0)) := by rw [← hw5, hT10]; exact setRow_heap _ _ _ _ 23 (0, 0) (hget_new hT10.symm)
      have hU7 : Upd [] wr w5 := by rw [← hw5]; exact (hU6.alloc _).setRow _ _ (by have := hU6.size; omega)
      have hU8 : Upd [] w w5 := hU.trans hU7
      have hTD : D < T10 := by have := hU6.size; omega
      rw [hT10]
      have H5 := Lib.hid h5
      clear hw5 hT10 h5 hU6 hsH hoH halH
      have HUa : Hid (Upd [] w (w5.alloc (.cells #[U8 97, U8 98, U8 99] 5 (3, 4)))) := hU8.alloc _
      have HRa : Hid (RdB (w5.alloc (.cells #[U8 97, U8 98, U8 99] 5 (3, 4))) (.slice (some ⟨w5.heap.size, 0, none⟩) 3 3) abc) := rd_abc _ _ _ _ (hget_new rfl) rfl
      go_upto_region 21 with (first
        | (go_at_call 7; refine (S3.out _ _ HRa.out (HG.out.upd HUa.out (by simp)) (HF.out.upd HUa.out (by simp))).mono ?_; rintro e6 w6 ⟨rfl, hU9⟩)
        | (refine wpList_store_row rfl 23 _ _ rfl _ (K.map U8).toArray rfl rfl 23 _ (hget_new rfl) hsK hoK halK ?_))
      go_simp
      obtain ⟨T11, hT11⟩ : ∃ T, w6.heap.size = T := ⟨_, rfl⟩
      generalize hw7 : World.setRow (World.alloc w6 _) _ _ = w7
      have hU10 : Upd [] w5 w7 := by rw [← hw7]; exact ((((Upd.refl [] w5).alloc _).trans hU9).alloc _).setRow _ _ (by have := hU9.size; simp at this; omega)
      have h7 : w7.heap[T11]? = some (.cells (K.map U8).toArray 23 (0, 0)) := by rw [← hw7, hT11]; exact setRow_heap _ _ _ _ 23 (0, 0) (hget_new hT11.symm)
      have h710 := hU10.heap H5.out (by simp)
      rw [hT11]
      have hc0 : w7.cell? ⟨T11, 0, none⟩ = some (U8 221) := by rw [cell_of_row _ _ _ _ _ _ h7]; simp [hK0]
      have hrg : w7.rangeAt T10 0 (H.map U8) := range_of_row h710 0 _ ⟨[], [], by simp, rfl⟩
      have hU11 : Upd [] wr w7 := hU7.trans hU10
      have hU12 : Upd [] w w7 := hU.trans hU11
      have hD7 := HD.out.upd hU11 (by simp)
      have HD7 := Lib.hid hD7
      have HH7 := Lib.hid h710
      clear hw7 hT11 h7 hU9 hU10 hU7 hU8 H5 hsK hoK halK kc HUa HRa hD7 h710
      have hu23 := Tryd.underlying23
      have hi23 : (Tryd.prog.info? 23).map (·.size) = some (H.map U8).length := by rw [List.length_map, hHl]; exact size_w64b
      have hl23 : (H.map U8).length = 64 := by rw [List.length_map, hHl]
      have ho23 : ∀ v ∈ H.map U8, v.oneCell' = true := fun v hv => by obtain ⟨y, _, rfl⟩ := List.mem_map.1 hv; rfl
      have HKS : Hid (∀ w w', (World.rangeAt w T10 0 (H.map U8) ∧ w.cell? ⟨T11, 0, none⟩ = some (U8 221)) → Upd [] w w' → (World.rangeAt w' T10 0 (H.map U8) ∧ w'.cell? ⟨T11, 0, none⟩ = some (U8 221))) := fun w w' h u =>
        ⟨rng_upd h.1 u, u.cell h.2 (by simp)⟩
      go_region_held3 (fun w' => w'.rangeAt T10 0 (H.map U8) ∧ w'.cell? ⟨T11, 0, none⟩ = some (U8 221)) (first | assumption | exact HKS.out _ _ (by assumption) (by assumption) | exact HKS.out _ _ (by assumption) ((Upd.refl [] _).drew.trans (by assumption)) | exact HKS.out _ _ (by assumption) (Upd.refl [] _).drew | exact HKS.out _ _ (by assumption) (Upd.refl [] _) | exact HKS.out _ _ ⟨hrg, hc0⟩ (Upd.refl [] _).drew | go_keep_ranges) (first
        | (go_at_call 14; refine (S1.out _ _ (HD7.out.upd (Upd.refl [] _).drew (by simp)) (HG.out.upd hU12.drew (by simp))).mono ?_; rintro e8 w8 ⟨rfl, hU13⟩)
        | (go_at_call 16; refine (lenof512 _ _ _ ((HD7.out.upd (Upd.refl [] _).drew (by simp)).upd hU13 (by simp))).mono ?_; rintro e9 w9 ⟨rfl, rfl⟩))
      have hU14 : Upd [] wr w8 := hU11.drew.trans hU13
      have hU15 : Upd [] w w8 := hU.trans hU14
      have hD8 := HD.out.upd hU14 (by simp)
      have h8T := hU13.heap (show w7.drew.heap[T10]? = _ from HH7.out) (by simp)
      have hX8 := HX.out.upd0 hU14
      have HX8 := Lib.hid hX8
      have H8T := Lib.hid h8T
      clear hU11 hU12 hU13 hU14 hU hrg hc0 hX8 h8T HH7 HD7
      go_wp2_with fail
      refine (resetof512 _ D W hD8 (HF.out.upd hU15 (by simp))).mono ?_
      rintro e9 w9 ⟨⟨y9, rfl⟩, hD9, hU16⟩
      have hX9 := HX8.out.upd hU16 (fun j hj hm => own_dig512 HX8.out hD8 (by rw [hj]; simp at hm; rw [hm]))
      have h9T := hU16.heap H8T.out (by simp; omega)
      have hU17 : Upd [] w w9 := hU15.trans' hU16 (fun i hi hl => by simp at hi; have := HB.out; omega)
      have HX9 := Lib.hid hX9
      have H9T := Lib.hid h9T
      clear hU16 hU15 hD8 hX9 h9T HX8 H8T
      go_wp2_with fail
      refine (write512 _ D _ [] W hD9 HX9.out.rd (fun _ => own_dig512 HX9.out hD9) (by omega) (HG.out.upd hU17 (by simp)) (by omega)).mono ?_
      rintro e10 w10 ⟨⟨y10, rfl⟩, hD10, hU18⟩
      rw [List.nil_append] at hD10
      have h10T := hU18.heap H9T.out (by simp; omega)
      have hU19 : Upd [] w w10 := hU17.trans' hU18 (fun i hi hl => by simp at hi; have := HB.out; omega)
      have HD10 := Lib.hid hD10
      have hR10 : ∀ w', Upd [] w10 w' → ∃ t fr, w'.heap[T10]? = some (.cells (H.map U8).toArray t fr) := fun w' h => ⟨_, _, h.heap h10T (by simp)⟩
      have HR10 := Lib.hid hR10
      have hsz10 : (Tryd.prog.info? 23).map (·.size) = some ((H.map U8).toArray).size := (wide_cells H hHl).1
      have HG10 := Lib.hid (HG.out.upd hU19 (by simp))
      clear hD9 hD10 hU17 hU18 HX9 H9T h10T hR10
      go_upto_region 25 with (fail)
      refine wp_region_quiet_all (Upd [] w10) (by kernel_rfl) (by kernel_rfl) (Upd.refl _ _).drew ?_
      repeat (first
        | (refine wpQuiet_val rfl (quiet_load_row 23 _ rfl T10 rfl _ HR10.out Tryd.underlying23 rfl hsz10) ?_)
        | (refine wpQuiet_step (fun K hK => ?_)
           go_simp
           first
             | (refine ⟨_, fun _ _ => rfl, hK _ ?_⟩; clear hK K)
             | (refine ⟨_, fun w2 hw2 => (S1.out w2 _ (HD10.out.upd hw2 (by simp)) (HG10.out.upd hw2 (by simp))).mono (fun e w' h => ⟨h.1, hw2.trans h.2⟩), hK _ ?_⟩; clear hK K)
             | (refine hK _ ?_; clear hK K)))
      refine wpQuiet_nil ?_
      intro w11 hU20
      go_wp2
      go_ret
      exact ⟨rfl, hU19.trans hU20⟩
end Go.Proofs.YtdejiachopiaaabDoor
