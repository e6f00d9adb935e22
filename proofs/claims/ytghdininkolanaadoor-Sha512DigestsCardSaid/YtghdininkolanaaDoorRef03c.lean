/-
  The document's block for sha512: step, Block.
-/
import Derived.Test.YtghdininkolanaaDoorRef03b
namespace Go.Proofs.YtghdininkolanaaDoor
open Go Go.RowKit Go.Proofs
def Gl3 (w : World) : Prop := ∃ T fr, w.heap[3]? = some (.cells (K512.map U64).toArray T fr)
theorem Gl3.upd {S : List Nat} {w w' : World} (h : Gl3 w) (u : Upd S w w') (hn : 3 ∉ S) : Gl3 w' := by
  obtain ⟨T, fr, h⟩ := h
  exact ⟨T, fr, u.heap h hn⟩
theorem Gl3.cell {w : World} (h : Gl3 w) (k : Nat) (hk : k < 80) : w.cell? ⟨3, k, none⟩ = some (U64 (K512.getD k 0)) := by
  obtain ⟨T, fr, h⟩ := h
  rw [cell_of_row _ _ k _ _ _ h]
  have hl : K512.length = 80 := rfl
  simp [hl, hk]
set_option maxRecDepth 100000 in
set_option maxHeartbeats 3200000 in
theorem refstep64 (w : World) (s : St 64) (b o c : Nat) (l : List (BitVec 8)) (hl : l.length = 128) (hb : Bytes w b o l) (hc : 128 ≤ c ∧ c ≤ maxLen) (hg : Gl3 w) :
    Calls Tryd.prog 33 #[.agg (s.list.map U64).toArray, .slice (some ⟨b, o, none⟩) 128 c] w fun e w' => e = .returned (.agg ((block512 s l).list.map U64).toArray) ∧ Upd [] w w' := by
  obtain ⟨W, hWe⟩ : ∃ W, words64 l 80 = W := ⟨_, rfl⟩
  have hWl : W.length = 80 := by rw [← hWe]; exact words64_length l 80
  have hwo := fun w hB => refwords64 w b o c l hl hB hc
  rw [hWe] at hwo
  have hsa : ((s.list.map U64).toArray).all (·.oneCell') = true := by simp
  have hss : (Tryd.prog.info? 66).map (·.size) = some ((s.list.map U64).toArray).size := by kernel_rfl
  have HWO := Lib.hid hwo
  have HW := Lib.hid hWe
  have HWL := Lib.hid hWl
  have HG := Lib.hid hg
  have HB := Lib.hid hb
  clear hwo hWe hWl hg hb hc
  go_enter Tryd.func33, Tryd.ntmps33
  go_upto_region 1 with (fail)
  generalize hw1 : (w.alloc _).alloc _ = w1
  have hu1 : Upd [] w w1 := by rw [← hw1]; exact ((Upd.refl [] w).alloc _).alloc _
  have h0 : w1.heap[w.heap.size]? = some (.cells (s.list.map U64).toArray 66 (0, 0)) := by rw [← hw1]; exact hget_old (hget_new rfl)
  have h2 : ∃ old : Array Value, w1.heap[w.heap.size + 1]? = some (.cells old 66 (0, 0)) ∧ old.size = 8 := by rw [← hw1]; exact ⟨_, hget_new (by simp), rfl⟩
  obtain ⟨old, h2, hold⟩ := h2
  clear hw1
  go_upto_region 2 with (first | (go_at_call 44; refine (HWO.out w1 (HB.out.upd hu1 (by simp))).mono ?_; rintro e w2 ⟨v, rfl, hO, hu2⟩))
  obtain ⟨gv, cv, rfl, hgv, hg2⟩ := hO.at (by rw [HWL.out]; omega)
  rw [HWL.out] at hO ⊢
  have h0 := hu2.heap h0 (by simp)
  have h2 := hu2.heap h2 (by simp)
  have hlt2 := lt_of_heap h2
  have hlt1 : w.heap.size ≤ gv := by have := hu1.size; omega
  go_upto_region 3 with (first | (refine wpList_load_row rfl 66 _ rfl w.heap.size rfl 66 _ (0, 0) _ h0 Tryd.underlying66 rfl hss ?_) | (refine wpList_store_row rfl 66 _ _ rfl w2.heap.size (s.list.map U64).toArray rfl rfl 66 _ (hget_new rfl) (by kernel_rfl) rfl hsa ?_))
  generalize hw3 : (w2.alloc _).setRow _ _ = w3
  obtain ⟨bs, hbs⟩ : ∃ bs, w2.heap.size = bs := ⟨_, rfl⟩
  have hu3 : Upd [] w2 w3 := by rw [← hw3]; exact ((Upd.refl [] w2).alloc _).setRow _ _ (by simp)
  have h7 : w3.heap[bs]? = some (.cells (s.list.map U64).toArray 66 (0, 0)) := by rw [← hw3, ← hbs]; exact setRow_heap _ _ _ _ 66 (0, 0) (hget_new rfl)
  have h0 := hu3.heap h0 (by simp)
  have h2 := hu3.heap h2 (by simp)
  have hO := hO.upd0 hu3
  have hu := (hu1.trans hu2).trans hu3
  have hn1 : w.heap.size + 1 < bs ∧ gv < bs := by omega
  have hgk : ∀ wr, Upd [] w wr → ∀ k, k < 80 → wr.cell? ⟨3, k, none⟩ = some (U64 (K512.getD k 0)) := fun wr h k hk => (HG.out.upd h (by simp)).cell k hk
  have HGK := Lib.hid hgk
  rw [hbs]
  clear hw3 hbs hlt2 hlt1 hgv hg2 hgk hu1 hu2 hu3 HG HB HWO
  go_wp2
  go_loopw [7] (fun i wr => ∃ k : Nat, k ≤ 80 ∧ i = .int .i64 k ∧ Upd [] w wr ∧ wr.heap[w.heap.size]? = some (.cells (s.list.map U64).toArray 66 (0, 0)) ∧ wr.heap[w.heap.size + 1]? = some (.cells old 66 (0, 0)) ∧ OwnQ wr w1.heap.size (.slice (some ⟨gv, 0, none⟩) 80 cv) W ∧
    wr.heap[bs]? = some (.cells ((roundsTo round64 s K512 W k).list.map U64).toArray 66 (0, 0))) (fun i _ => 80 - (intOf i).toNat)
  case atStart => exact ⟨0, by omega, rfl, hu, h0, h2, hO, h7⟩
  case round =>
    clear hu h0 h2 hO h7
    obtain ⟨k, hk, rfl, hu, h0, h2, hO, h7⟩ := hrel
    by_cases hlt : k < 80
    · obtain ⟨x, hx⟩ : ∃ x, W.getD k 0 = x := ⟨_, rfl⟩
      obtain ⟨y, hy⟩ : ∃ y, K512.getD k 0 = y := ⟨_, rfl⟩
      obtain ⟨r, hr⟩ : ∃ r, roundsTo round64 s K512 W k = r := ⟨_, rfl⟩
      have hcw := hO.cell k (by rw [HWL.out]; exact hlt)
      have hck := HGK.out wr hu k hlt
      rw [hx] at hcw
      rw [hy] at hck
      rw [hr] at h7
      obtain ⟨c0, c1, c2, c3, c4, c5, c6, c7⟩ := st_row U64 r h7
      have HX := Lib.hid hx
      have HY := Lib.hid hy
      have HR := Lib.hid hr
      have hki : (k : Int) < 80 := by omega
      clear hx hy hr
      go_wp2
      refine wp_region_quiet_tail 8 (fun w' => ∃ n, w' = wr.drewN n) (by kernel_rfl) (by kernel_rfl) ⟨1, rfl⟩ ?_
      simp only [List.take_succ_cons, List.take_zero, List.drop_succ_cons, List.drop_zero]
      repeat ((refine wpQuiet_step (fun K hK => ?_)); go_simp; (try go_bits); (refine hK _ ?_; clear hK K))
      refine wpQuiet_nil ?_
      rintro _ ⟨nq, rfl⟩
      go_wp2_with fail
      refine (refround64 _ r y x).mono ?_
      rintro _ w7 ⟨rfl, hu7⟩
      have h7 := hu7.heap (show (wr.drewN nq).heap[bs]? = _ from h7) (by simp)
      have h0 := hu7.heap (show (wr.drewN nq).heap[w.heap.size]? = _ from h0) (by simp)
      have h2 := hu7.heap (show (wr.drewN nq).heap[w.heap.size + 1]? = _ from h2) (by simp)
      have hO := (hO.drew nq).upd0 hu7
      have hu := (hu.drewN nq).trans hu7
      have ha : (((round64 r y x).list.map U64).toArray).all (·.oneCell') = true := by simp
      clear c0 c1 c2 c3 c4 c5 c6 c7 hcw hck
      go_wp2_with (refine wpList_store_row rfl 66 _ _ rfl bs _ rfl rfl 66 _ h7 (by kernel_rfl) rfl ha ?_)
      go_roundw
      case rel =>
        have hX : Upd [bs] w7 (w7.setRow bs ((round64 r y x).list.map U64).toArray) := (Upd.refl _ w7).setRow _ _ (by simp)
        refine ⟨k + 1, by omega, by go_num, hu.setRow _ _ (by omega), ?_, ?_, hO.upd hX (fun k hk => by simp [Value.ownBlock] at hk; simp; omega), ?_⟩
        · rw [setRow_other _ _ _ _ (by omega)]; exact h0
        · rw [setRow_other _ _ _ _ (by omega)]; exact h2
        · rw [setRow_heap _ _ _ _ 66 (0, 0) h7]
          show _ = some (Obj.cells ((round64 (roundsTo round64 s K512 W k) (K512.getD k 0) (W.getD k 0)).list.map U64).toArray _ _)
          rw [HR.out, HX.out, HY.out]
      case measure => simp [intOf]; omega
    · obtain rfl : k = 80 := by omega
      obtain ⟨r, hr⟩ : ∃ r, roundsTo round64 s K512 W 80 = r := ⟨_, rfl⟩
      rw [hr] at h7
      have HR := Lib.hid hr
      clear hr hO
      go_wp2
      rw [show ((80 : Nat) : Int) = 80 from rfl]
      go_loopw [8] (fun i wr => ∃ k : Nat, k ≤ 8 ∧ i = .int .i64 k ∧ Upd [] w wr ∧ wr.heap[w.heap.size]? = some (.cells (s.list.map U64).toArray 66 (0, 0)) ∧ wr.heap[w.heap.size + 1]? = some (.cells old 66 (0, 0)) ∧ wr.heap[bs]? = some (.cells ((addTo r.list s.list k).map U64).toArray 66 (0, 0))) (fun i _ => 8 - (intOf i).toNat)
      case atStart => exact ⟨0, by omega, rfl, hu, h0, h2, h7⟩
      case round =>
        clear hu h0 h2 h7
        obtain ⟨k, hk, rfl, hu, h0, h2, h7⟩ := hrel
        by_cases hlt : k < 8
        · obtain ⟨x, hx⟩ : ∃ x, r.list.getD k 0 = x := ⟨_, rfl⟩
          obtain ⟨y, hy⟩ : ∃ y, s.list.getD k 0 = y := ⟨_, rfl⟩
          have hcx : wr.cell? ⟨bs, k, none⟩ = some (U64 x) := by
            rw [cell_of_row _ _ k _ _ _ h7]; simp [addTo_get r s k hlt]; rw [← hx]; simp
          have hcy : wr.cell? ⟨w.heap.size, k, none⟩ = some (U64 y) := by
            rw [cell_of_row _ _ k _ _ _ h0, st_get U64 s k hlt, hy]
          have hfr : wr.frozen? ⟨bs, k, none⟩ = false := frozen_of_row _ _ k _ _ h7
          have HX := Lib.hid hx
          have HY := Lib.hid hy
          have hki : (k : Int) < 8 := by omega
          clear hx hy
          go_wp2
          refine wp_region_quiet_tail 9 (fun w' => ∃ n, w' = wr.drewN n) (by kernel_rfl) (by kernel_rfl) ⟨1, rfl⟩ ?_
          simp only [List.take_succ_cons, List.take_zero, List.drop_succ_cons, List.drop_zero]
          repeat ((refine wpQuiet_step (fun K hK => ?_)); go_simp; (try go_bits); (refine hK _ ?_; clear hK K))
          refine wpQuiet_nil ?_
          rintro _ ⟨nq, rfl⟩
          go_wp2
          go_roundw
          case rel =>
            refine ⟨k + 1, by omega, by go_num, (hu.drewN nq).setCell _ _ (by simp; omega), ?_, ?_, ?_⟩
            · rw [heap_setCell_other _ _ _ _ (by simp; omega)]; exact h0
            · rw [heap_setCell_other _ _ _ _ (by simp; omega)]; exact h2
            · rw [heap_setCell_same _ _ _ _ _ _ (show (wr.drewN nq).heap[bs]? = _ from h7)]
              have := addTo_step r s k hlt
              rw [HX.out, HY.out] at this
              rw [← this]
              simp [List.map_set]
          case measure => simp [intOf]; omega
        · obtain rfl : k = 8 := by omega
          rw [addTo_end] at h7
          have hs : (Tryd.prog.info? 66).map (·.size) = some (((r.add s).list.map U64).toArray).size := by kernel_rfl
          have ho : old.size = (((r.add s).list.map U64).toArray).size := hold
          have ha : (((r.add s).list.map U64).toArray).all (·.oneCell') = true := by simp
          go_wp2_with (first | (refine wpList_load_row rfl 66 _ rfl bs rfl 66 _ (0, 0) _ h7 Tryd.underlying66 rfl hs ?_) | (refine wpList_store_row rfl 66 _ _ rfl (w.heap.size + 1) _ rfl rfl 66 _ h2 hs ho ha ?_))
          refine bodyPost_ret (v := .agg ((r.add s).list.map U64).toArray) (results_cell_row rfl _ _ (w.heap.size + 1) 66 _ (0, 0) _ rfl (setRow_heap wr (w.heap.size + 1) _ _ 66 (0, 0) h2) Tryd.underlying66 rfl hs) rfl ⟨ret_eq ?_, hu.setRow _ _ (by omega)⟩
          rw [St.add_comm', ← HR.out, ← HW.out]; rfl
end Go.Proofs.YtghdininkolanaaDoor
