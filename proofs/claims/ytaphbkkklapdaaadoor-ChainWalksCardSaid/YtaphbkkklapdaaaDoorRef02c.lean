/-
  The document's answer for sha256: rounds, first, Block.
-/
import Derived.Test.YtaphbkkklapdaaaDoorRef02b
namespace Go.Proofs.YtaphbkkklapdaaaDoor
open Go Go.RowKit Go.Proofs
theorem K256_size : ((K256.map U32).toArray).size = 64 := rfl
set_option maxRecDepth 100000 in
set_option maxHeartbeats 800000 in
theorem refrounds32 (w : World) : Calls Tryd.prog 38 #[] w fun e w' => e = .returned (.agg (K256.map U32).toArray) ∧ Upd [] w w' := by
  have hall : ((K256.map U32).toArray).all (·.oneCell') = true := by simp
  have HA := Lib.hid hall
  clear hall
  go_enter Tryd.func38, Tryd.ntmps38
  go_wp2_with (first | (refine wpList_build_eq rfl 64 _ rfl (K256.map U32).toArray (by kernel_rfl) ?_) | (refine wpList_store_row rfl 64 _ _ rfl w.heap.size (K256.map U32).toArray rfl rfl 64 (zrow32 64) (hget_new rfl) size_w32 rfl HA.out ?_))
  refine bodyPost_ret (v := .agg (K256.map U32).toArray) ?hr rfl ?hR
  case hr =>
    refine results_cell_row rfl _ _ w.heap.size 64 (K256.map U32).toArray (0, 0) _ rfl ?_ Tryd.underlying64 rfl size_w32
    exact setRow_heap _ _ _ _ 64 (0, 0) (hget_new rfl)
  case hR => exact ⟨rfl, ((Upd.refl [] w).alloc _).setRow _ _ (by omega)⟩
set_option maxRecDepth 100000 in
set_option maxHeartbeats 3200000 in
theorem refblock256 (w : World) (s : St 32) (l : List (BitVec 8)) (hl : l.length = 64) : Calls Tryd.prog 31 #[.agg (s.list.map U32).toArray, .agg (l.map U8).toArray] w fun e w' => e = .returned (.agg ((block256 s l).list.map U32).toArray) ∧ Upd [] w w' := by
  have hb : (Tryd.prog.info? 55).map (·.size) = some ((l.map U8).toArray).size := by simp only [List.size_toArray, List.length_map, hl]; exact size_b64
  obtain ⟨W, hWe⟩ : ∃ W, W = words32 l 64 := ⟨_, rfl⟩
  have hWl : W.length = 64 := by rw [hWe]; exact words32_length l 64
  have hsch := fun w => refsched32 w l hl
  rw [← hWe] at hsch
  obtain ⟨KS, hKS⟩ : ∃ KS, KS = K256 := ⟨_, rfl⟩
  have hKl : KS.length = 64 := by rw [hKS]; rfl
  have hrou := fun w => refrounds32 w
  rw [← hKS] at hrou
  have hws : (Tryd.prog.info? 64).map (·.size) = some ((W.map U32).toArray).size := by simp only [List.size_toArray, List.length_map, hWl]; exact size_w32
  have hks : (Tryd.prog.info? 64).map (·.size) = some ((KS.map U32).toArray).size := by simp only [List.size_toArray, List.length_map, hKl]; exact size_w32
  have hzw : (zrow32 64).size = ((W.map U32).toArray).size := by simp [zrow32, hWl]
  have hzk : (zrow32 64).size = ((KS.map U32).toArray).size := by simp [zrow32, hKl]
  have hwa : ((W.map U32).toArray).all (·.oneCell') = true := by simp
  have hka : ((KS.map U32).toArray).all (·.oneCell') = true := by simp
  have hsa : ((s.list.map U32).toArray).all (·.oneCell') = true := by simp
  have hss : (Tryd.prog.info? 54).map (·.size) = some ((s.list.map U32).toArray).size := size_s32
  have Hsch := Lib.hid hsch
  have Hrou := Lib.hid hrou
  have HW := Lib.hid hWe
  have HK := Lib.hid hKS
  clear hsch hWe hrou hKS
  go_enter Tryd.func31, Tryd.ntmps31
  go_upto_region 3 with (first | (refine wpList_load_row rfl 55 _ rfl (w.heap.size + 1) rfl 55 (l.map U8).toArray (0, 0) _ (hget_old (hget_new (World.size_alloc _ _).symm)) Tryd.underlying55 rfl hb ?_) | (go_at_call 37; refine (Hsch.out _).mono ?_; rintro e w2 ⟨rfl, hu2⟩) | (go_at_call 38; refine (Hrou.out _).mono ?_; rintro e w4 ⟨rfl, hu4⟩) | (refine wpList_store_row rfl 64 _ _ rfl _ (W.map U32).toArray rfl rfl 64 (zrow32 64) (hget_new rfl) hws hzw hwa ?_) | (refine wpList_store_row rfl 64 _ _ rfl _ (KS.map U32).toArray rfl rfl 64 (zrow32 64) (hget_new rfl) hks hzk hka ?_))
  generalize hw1 : ((w.alloc _).alloc _).alloc _ = w1 at hu2
  have hu1 : Upd [] w w1 := by rw [← hw1]; exact (((Upd.refl [] w).alloc _).alloc _).alloc _
  have h0 : w1.heap[w.heap.size]? = some (.cells (s.list.map U32).toArray 54 (0, 0)) := by rw [← hw1]; exact hget_old (hget_old (hget_new rfl))
  have h2 : ∃ old : Array Value, w1.heap[w.heap.size + 1 + 1]? = some (.cells old 54 (0, 0)) ∧ old.size = 8 := by rw [← hw1]; exact ⟨_, hget_new (by simp), rfl⟩
  obtain ⟨old, h2, hold⟩ := h2
  have hn1 : w.heap.size + 1 + 1 < w2.heap.size := by have := hu2.size; have := lt_of_heap h2; omega
  clear hw1
  generalize hw3 : (w2.alloc _).setRow _ _ = w3 at hu4
  generalize hw5 : (w4.alloc _).setRow _ _ = w5
  obtain ⟨bw, hbw⟩ : ∃ bw, w2.heap.size = bw := ⟨_, rfl⟩
  obtain ⟨bk, hbk⟩ : ∃ bk, w4.heap.size = bk := ⟨_, rfl⟩
  have hu3 : Upd [] w2 w3 := by rw [← hw3]; exact ((Upd.refl [] w2).alloc _).setRow _ _ (by simp)
  have h5 : w3.heap[bw]? = some (.cells (W.map U32).toArray 64 (0, 0)) := by rw [← hw3, ← hbw]; exact setRow_heap _ _ _ _ 64 (0, 0) (hget_new rfl)
  have hu5 : Upd [] w4 w5 := by rw [← hw5]; exact ((Upd.refl [] w4).alloc _).setRow _ _ (by simp)
  have h6 : w5.heap[bk]? = some (.cells (KS.map U32).toArray 64 (0, 0)) := by rw [← hw5, ← hbk]; exact setRow_heap _ _ _ _ 64 (0, 0) (hget_new rfl)
  have h5 := hu5.heap (hu4.heap h5 (by simp)) (by simp)
  have h0 := hu5.heap (hu4.heap (hu3.heap (hu2.heap h0 (by simp)) (by simp)) (by simp)) (by simp)
  have h2 := hu5.heap (hu4.heap (hu3.heap (hu2.heap h2 (by simp)) (by simp)) (by simp)) (by simp)
  have hu : Upd [] w w5 := (((hu1.trans hu2).trans hu3).trans hu4).trans hu5
  have hn5 : w2.heap.size < w5.heap.size := by rw [hbw]; exact lt_of_heap h5
  have hn6 : w4.heap.size < w5.heap.size := by rw [hbk]; exact lt_of_heap h6
  rw [hbw] at hn1 hn5
  rw [hbk] at hn6
  have hn46 : bw < bk := by have := hu4.size; have := lt_of_heap (show w3.heap[bw]? = _ by rw [← hw3, ← hbw]; exact setRow_heap _ _ _ _ 64 (0, 0) (hget_new rfl)); omega
  rw [hbw, hbk]
  clear hw3 hw5 hbw hbk hu1 hu2 hu3 hu4 hu5 hb hws hks hzw hzk hwa hka Hsch Hrou
  go_wp2_with (first | (refine wpList_load_row rfl 54 _ rfl w.heap.size rfl 54 _ (0, 0) _ h0 Tryd.underlying54 rfl hss ?_) | (refine wpList_store_row rfl 54 _ _ rfl _ (s.list.map U32).toArray rfl rfl 54 (zrow32 8) (hget_new rfl) size_s32 rfl hsa ?_))
  generalize hw6 : (w5.alloc _).setRow _ _ = w6
  obtain ⟨bs, hbs⟩ : ∃ bs, w5.heap.size = bs := ⟨_, rfl⟩
  have hu6 : Upd [] w5 w6 := by rw [← hw6]; exact ((Upd.refl [] w5).alloc _).setRow _ _ (by simp)
  have h7 : w6.heap[bs]? = some (.cells (s.list.map U32).toArray 54 (0, 0)) := by rw [← hw6, ← hbs]; exact setRow_heap _ _ _ _ 54 (0, 0) (hget_new rfl)
  have h0 := hu6.heap h0 (by simp)
  have h2 := hu6.heap h2 (by simp)
  have h5 := hu6.heap h5 (by simp)
  have h6 := hu6.heap h6 (by simp)
  have hu := hu.trans hu6
  rw [hbs] at hn5 hn6 ⊢
  clear hw6 hu6 hbs
  go_loopw [8] (fun i wr => ∃ k : Nat, k ≤ 64 ∧ i = .int .i64 k ∧ Upd [] w wr ∧ wr.heap[w.heap.size]? = some (.cells (s.list.map U32).toArray 54 (0, 0)) ∧ wr.heap[w.heap.size + 1 + 1]? = some (.cells old 54 (0, 0)) ∧ wr.heap[bw]? = some (.cells (W.map U32).toArray 64 (0, 0)) ∧ wr.heap[bk]? = some (.cells (KS.map U32).toArray 64 (0, 0)) ∧ wr.heap[bs]? = some (.cells ((roundsTo round32 s KS W k).list.map U32).toArray 54 (0, 0))) (fun i _ => 64 - (intOf i).toNat)
  case atStart => exact ⟨0, by omega, rfl, hu, h0, h2, h5, h6, h7⟩
  case round =>
    clear hu h0 h2 h5 h6 h7
    obtain ⟨k, hk, rfl, hu, h0, h2, h5, h6, h7⟩ := hrel
    by_cases hlt : k < 64
    · obtain ⟨x, hx⟩ : ∃ x, W.getD k 0 = x := ⟨_, rfl⟩
      obtain ⟨y, hy⟩ : ∃ y, KS.getD k 0 = y := ⟨_, rfl⟩
      obtain ⟨r, hr⟩ : ∃ r, roundsTo round32 s KS W k = r := ⟨_, rfl⟩
      have hcw : wr.cell? ⟨bw, k, none⟩ = some (U32 (W.getD k 0)) := by
        rw [cell_of_row _ _ k _ _ _ h5]; simp [hWl, hlt]
      have hck : wr.cell? ⟨bk, k, none⟩ = some (U32 (KS.getD k 0)) := by
        rw [cell_of_row _ _ k _ _ _ h6]; simp [hKl, hlt]
      rw [hx] at hcw
      rw [hy] at hck
      rw [hr] at h7
      obtain ⟨c0, c1, c2, c3, c4, c5, c6, c7⟩ := st_row U32 r h7
      have HX := Lib.hid hx
      have HY := Lib.hid hy
      have HR := Lib.hid hr
      have hki : (k : Int) < 64 := by omega
      clear hx hy hr
      go_wp2
      refine wp_region_quiet_tail 7 (fun w' => ∃ n, w' = wr.drewN n) (by kernel_rfl) (by kernel_rfl) ⟨1, rfl⟩ ?_
      simp only [List.take_succ_cons, List.take_zero, List.drop_succ_cons, List.drop_zero]
      repeat ((refine wpQuiet_step (fun K hK => ?_)); go_simp; (try go_bits); (refine hK _ ?_; clear hK K))
      refine wpQuiet_nil ?_
      rintro _ ⟨nq, rfl⟩
      go_wp2_with fail
      refine (refround32 _ r y x).mono ?_
      rintro _ w7 ⟨rfl, hu7⟩
      have h7 := hu7.heap (show (wr.drewN nq).heap[bs]? = _ from h7) (by simp)
      have h0 := hu7.heap (show (wr.drewN nq).heap[w.heap.size]? = _ from h0) (by simp)
      have h2 := hu7.heap (show (wr.drewN nq).heap[w.heap.size + 1 + 1]? = _ from h2) (by simp)
      have h5 := hu7.heap (show (wr.drewN nq).heap[bw]? = _ from h5) (by simp)
      have h6 := hu7.heap (show (wr.drewN nq).heap[bk]? = _ from h6) (by simp)
      have hu := (hu.drewN nq).trans hu7
      have ha : (((round32 r y x).list.map U32).toArray).all (·.oneCell') = true := by simp
      clear c0 c1 c2 c3 c4 c5 c6 c7 hcw hck
      go_wp2_with (refine wpList_store_row rfl 54 _ _ rfl bs _ rfl rfl 54 _ h7 size_s32 rfl ha ?_)
      go_roundw
      case rel =>
        refine ⟨k + 1, by omega, by go_num, hu.setRow _ _ (by omega), ?_, ?_, ?_, ?_, ?_⟩
        · rw [setRow_other _ _ _ _ (by omega)]; exact h0
        · rw [setRow_other _ _ _ _ (by omega)]; exact h2
        · rw [setRow_other _ _ _ _ (by omega)]; exact h5
        · rw [setRow_other _ _ _ _ (by omega)]; exact h6
        · rw [setRow_heap _ _ _ _ 54 (0, 0) h7]
          show _ = some (Obj.cells ((round32 (roundsTo round32 s KS W k) (KS.getD k 0) (W.getD k 0)).list.map U32).toArray _ _)
          rw [HR.out, HX.out, HY.out]
      case measure => simp [intOf]; omega
    · obtain rfl : k = 64 := by omega
      obtain ⟨r, hr⟩ : ∃ r, roundsTo round32 s KS W 64 = r := ⟨_, rfl⟩
      rw [hr] at h7
      have HR := Lib.hid hr
      clear hr h5 h6
      go_wp2
      rw [show ((64 : Nat) : Int) = 64 from rfl]
      go_loopw [9] (fun i wr => ∃ k : Nat, k ≤ 8 ∧ i = .int .i64 k ∧ Upd [] w wr ∧ wr.heap[w.heap.size]? = some (.cells (s.list.map U32).toArray 54 (0, 0)) ∧ wr.heap[w.heap.size + 1 + 1]? = some (.cells old 54 (0, 0)) ∧ wr.heap[bs]? = some (.cells ((addTo r.list s.list k).map U32).toArray 54 (0, 0))) (fun i _ => 8 - (intOf i).toNat)
      case atStart => exact ⟨0, by omega, rfl, hu, h0, h2, h7⟩
      case round =>
        clear hu h0 h2 h7
        obtain ⟨k, hk, rfl, hu, h0, h2, h7⟩ := hrel
        by_cases hlt : k < 8
        · obtain ⟨x, hx⟩ : ∃ x, r.list.getD k 0 = x := ⟨_, rfl⟩
          obtain ⟨y, hy⟩ : ∃ y, s.list.getD k 0 = y := ⟨_, rfl⟩
          have hcx : wr.cell? ⟨bs, k, none⟩ = some (U32 x) := by
            rw [cell_of_row _ _ k _ _ _ h7]; simp [addTo_get r s k hlt]; rw [← hx]; simp
          have hcy : wr.cell? ⟨w.heap.size, k, none⟩ = some (U32 y) := by
            rw [cell_of_row _ _ k _ _ _ h0, st_get U32 s k hlt, hy]
          have hfr : wr.frozen? ⟨bs, k, none⟩ = false := frozen_of_row _ _ k _ _ h7
          have HX := Lib.hid hx
          have HY := Lib.hid hy
          have hki : (k : Int) < 8 := by omega
          clear hx hy
          go_wp2
          refine wp_region_quiet_tail 9 (fun w' => ∃ n, w' = wr.drewN n) (by kernel_rfl) (by kernel_rfl) ⟨1, rfl⟩ ?_
          simp only [List.take_succ_cons, List.take_zero, List.drop_succ_cons, List.drop_zero]
          repeat ((refine wpQuiet_step (fun K hK => ?_)); go_simp; (try go_bits); (refine hK _ ?_; clear hK K))
          refine wpQuiet_nil ?_
          rintro _ ⟨nq, rfl⟩
          go_wp2
          go_roundw
          case rel =>
            refine ⟨k + 1, by omega, by go_num, (hu.drewN nq).setCell _ _ (by simp; omega), ?_, ?_, ?_⟩
            · rw [heap_setCell_other _ _ _ _ (by simp; omega)]; exact h0
            · rw [heap_setCell_other _ _ _ _ (by simp; omega)]; exact h2
            · rw [heap_setCell_same _ _ _ _ _ _ (show (wr.drewN nq).heap[bs]? = _ from h7)]
              have := addTo_step r s k hlt
              rw [HX.out, HY.out] at this
              rw [← this]
              simp [List.map_set]
          case measure => simp [intOf]; omega
        · obtain rfl : k = 8 := by omega
          rw [addTo_end] at h7
          have hs : (Tryd.prog.info? 54).map (·.size) = some (((r.add s).list.map U32).toArray).size := size_s32
          have ho : old.size = (((r.add s).list.map U32).toArray).size := hold
          have ha : (((r.add s).list.map U32).toArray).all (·.oneCell') = true := by simp
          go_wp2_with (first | (refine wpList_load_row rfl 54 _ rfl bs rfl 54 _ (0, 0) _ h7 Tryd.underlying54 rfl hs ?_) | (refine wpList_store_row rfl 54 _ _ rfl (w.heap.size + 1 + 1) _ rfl rfl 54 _ h2 hs ho ha ?_))
          refine bodyPost_ret (v := .agg ((r.add s).list.map U32).toArray) (results_cell_row rfl _ _ (w.heap.size + 1 + 1) 54 _ (0, 0) _ rfl (setRow_heap wr (w.heap.size + 1 + 1) _ _ 54 (0, 0) h2) Tryd.underlying54 rfl hs) rfl ⟨ret_eq ?_, hu.setRow _ _ (by omega)⟩
          rw [St.add_comm', ← HR.out, HW.out, HK.out]; rfl
end Go.Proofs.YtaphbkkklapdaaaDoor
