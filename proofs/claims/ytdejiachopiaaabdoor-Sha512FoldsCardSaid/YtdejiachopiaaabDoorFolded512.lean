/-
  folded: the hash that Block makes of a message with what Pad says behind it.
-/
import Derived.Test.YtdejiachopiaaabDoorDigSum512
import Derived.Test.YtdejiachopiaaabDoorUpTo
import Derived.Test.YtdejiachopiaaabDoorHashGet64
import Derived.Deep.CutBlock
namespace Go.Proofs.YtdejiachopiaaabDoor
open Go Go.RowKit Go.Proofs
theorem results_row_tmp {P : Program} {fn : Func} {p u : Tmp} {ty : TypeId} (h : fn.results = #[.cell p ty, .tmp u]) (tmps : Array Value) (w : World) (g : Nat) (t : TypeId) (cs : Array Value) (fr : Nat × Nat) (d : TypeDesc)
    (hp : tmps.getD p undef = .pointer (some ⟨g, 0, none⟩)) (hg : w.heap[g]? = some (.cells cs t fr))
    (hu : P.underlying ty = some d) (hd : (match d with | .struct _ | .array _ _ => true | _ => false) = true) (hi : (P.info? ty).map (·.size) = some cs.size) :
    (results fn tmps).run P w = .ok (.tuple #[.agg cs, tmps.getD u undef]) w := by
  rw [results_cell_tmp h, hp]
  simp [asAddr, run_loadVar_row w g t ty cs fr d hg hu hd hi, Result.andThen]
@[go_sem] theorem zero_b128' (w : World) : (zeroValue 43).run Tryd.prog w = .ok (.agg (zrow8 128)) w := by kernel_rfl
def GlFirstL3 (w : World) : Prop := ∃ T fr, w.heap[1]? = some (.cells (first512.list.map U64).toArray T fr)
theorem GlFirstL3.upd {S : List Nat} {w w' : World} (h : GlFirstL3 w) (u : Upd S w w') (hn : 1 ∉ S) : GlFirstL3 w' := by
  obtain ⟨T, fr, h⟩ := h
  exact ⟨T, fr, u.heap h hn⟩
set_option maxRecDepth 100000 in
set_option maxHeartbeats 6400000 in
theorem folded512 (w : World) (v : Value) (m : List (BitVec 8)) (hv : RdB w v m) (hm : m.length ≤ 1000000) (hg : Gl512 w) (hf : GlFirstL3 w) :
    Calls Tryd.prog 11 #[v] w fun e w' => e = .returned (.tuple #[.agg ((sha512 m).map U8).toArray, .bool true]) ∧ Upd [] w w' := by
  obtain ⟨A, cap, rfl, hcap1, hcap2⟩ := hv.isSlice
  obtain ⟨p, hp⟩ : ∃ p, pad512 (BitVec.ofNat 64 m.length) = p := ⟨_, rfl⟩
  have hpl : 17 ≤ p.length ∧ p.length ≤ 144 := by rw [← hp, pad512_length]; have := noughts512_lt (BitVec.ofNat 64 m.length); omega
  have hblk : ∃ n, (m ++ p).length = 128 * n := by
    refine ⟨(m ++ p).length / 128, ?_⟩
    rw [List.length_append, ← hp, pad512_length]
    unfold noughts512
    have e : (BitVec.ofNat 64 m.length).toNat = m.length := by rw [BitVec.toNat_ofNat]; exact Nat.mod_eq_of_lt (by omega)
    rw [e]
    omega
  have hpads := fun w => padof512 w (BitVec.ofNat 64 m.length)
  rw [hp] at hpads
  have HPADS := Lib.hid hpads
  have HP := Lib.hid hp
  have HV := Lib.hid hv
  have HG := Lib.hid hg
  have HF := Lib.hid hf
  have HBLK := Lib.hid hblk
  obtain ⟨B, hB⟩ : ∃ B, w.heap.size = B := ⟨_, rfl⟩
  have HB := Lib.hid hB
  clear hp hpads hv hg hf hblk
  go_enter Tryd.func11, Tryd.ntmps11
  go_upto_region 1 with (fail)
  generalize hw1 : World.alloc w _ = w1
  have hU1 : Upd [] w w1 := by rw [← hw1]; exact (Upd.refl _ w).alloc _
  have h1 : w1.heap[B]? = some (.cells (zrow8 64) 23 (0, 0)) := by rw [← hw1]; exact hget_new hB.symm
  have hs1 : w1.heap.size = B + 1 := by rw [← hw1]; simp [hB]
  have HS1 := Lib.hid hs1
  have HB1 := Lib.hid h1
  clear hB hs1 h1 hw1
  go_upto_region 4 with (first
    | (at_builtin; refine append_rd rfl _ _ rfl (B + 1) (.slice none 0 0) [] (by rfl) (OwnB.nil _ _) _ m (by rfl) (HV.out.upd0 hU1) (by simp; omega) (by have := HS1.out; omega) ?_; intro v2 w2 hO2 _ hU2 hG2; simp only [List.nil_append] at hO2 hG2)
    | (go_at_call 21; refine (HPADS.out _).mono ?_; rintro e w3 ⟨v3, rfl, hO3, hU3⟩)
    | (at_builtin; refine append_rd rfl _ _ rfl (B + 1) v2 m (by rfl) (hO2.upd0 hU3) v3 p (by rfl) hO3.rd (by omega) (by have := HS1.out; have := hU2.size; have := hU3.size; omega) ?_; intro v4 w4 hO4 _ hU4 hG4))
  have hU5a : Upd [] w w4 := by
    have h2 : Upd [] w w2 := hU1.trans' hU2 (fun i hi _ => by simp [Value.ownBlock] at hi)
    exact (h2.trans hU3).row hU4 (fun g hg => by have := (hO2.lt g hg).1; have := HB.out; omega)
  have h4B : w4.heap[B]? = some (.cells (zrow8 64) 23 (0, 0)) := by
    have h2 := hU2.heap HB1.out (by simp [Value.ownBlock])
    exact hU4.heap (hU3.heap h2 (by simp)) (fun h => by have := (hO2.lt B (by simpa using h)).1; omega)
  obtain ⟨L, hL⟩ : ∃ L, m ++ p = L := ⟨_, rfl⟩
  obtain ⟨n, hn⟩ := HBLK.out
  rw [hL] at hn hO4 hG4
  have hLlen : 17 ≤ L.length ∧ L.length ≤ 140737488355328 := by rw [← hL, List.length_append]; omega
  have hLm : L.length = m.length + p.length := by rw [← hL, List.length_append]
  obtain ⟨g, c4, rfl, hgB, hgl, hc4, hc4'⟩ := hO4.at (by omega)
  have hsum : sha512 m = hash64 (led block512 128 first512 L n) := by
    rw [sha512, padded512, HP.out, hL, hn, Nat.mul_div_cancel_left n (by omega)]
  obtain ⟨N, hN⟩ : ∃ N, L.length = N := ⟨_, rfl⟩
  rw [hN] at hn hO4 hLlen hLm hc4 ⊢
  obtain ⟨O, hO⟩ : ∃ O, w4.heap.size = O := ⟨_, rfl⟩
  have hBO : B < O ∧ g < O := by have := lt_of_heap h4B; omega
  have HSUM := Lib.hid hsum
  have HN := Lib.hid hn
  have HNN := Lib.hid hN
  have HO4 := Lib.hid hO4
  have H4B := Lib.hid h4B
  have HO := Lib.hid hO
  have hmod : ((N : Int) % 128 != 0) = false := by rw [bne_eq_false_iff_eq]; omega
  have hlo : decide ((N : Int) < (m.length : Int) + 17) = false := by simp; omega
  have hhi : decide ((m.length : Int) + 144 < (N : Int)) = false := by simp; omega
  have hN1 : (m.length : Int) + 17 ≤ (N : Int) ∧ (N : Int) ≤ (m.length : Int) + 144 := by omega
  clear hsum hn hO4 hO2 hO3 hU1 hU2 hU3 hU4 hG2 hG4 HB1 HPADS HBLK h4B hL hN HP hLm hpl
  go_upto_region 5 with (fail)
  generalize hw5 : World.alloc w4 _ = w5
  have hU5 : Upd [] w w5 := by rw [← hw5]; exact hU5a.alloc _
  have h5O : w5.heap[O]? = some (.cells ((upTo (sha512 m) 64 0).map U8).toArray 23 (0, 0)) := by rw [← hw5]; exact hget_new hO.symm
  have h5B : w5.heap[B]? = some (.cells (zrow8 64) 23 (0, 0)) := by rw [← hw5]; exact hget_old H4B.out
  have h5L : OwnB w5 (B + 1) (.slice (some ⟨g, 0, none⟩) N c4) L := by rw [← hw5]; exact HO4.out.alloc _
  have h5s : w5.heap.size = O + 1 := by rw [← hw5]; simp [hO]
  have H5O := Lib.hid h5O
  have H5B := Lib.hid h5B
  have H5L := Lib.hid h5L
  have H5S := Lib.hid h5s
  clear hw5 h5s h5O h5B h5L HO4 H4B hU5a hO HO hgl
  go_upto_region 7 with (fail)
  obtain ⟨TF, fF, hF4⟩ := HF.out.upd hU5 (by simp)
  have hs8' : (Tryd.prog.info? 41).map (·.size) = some ((first512.list.map U64).toArray).size := size_s64
  clear hmod hlo hhi
  go_upto_region 8 with (first
    | (refine wpList_load_row rfl 41 _ rfl 1 rfl TF _ fF _ hF4 Tryd.underlying41 rfl hs8' ?_)
    | (refine wpList_store_row rfl 41 _ _ rfl _ (first512.list.map U64).toArray rfl rfl 41 _ (hget_new rfl) size_s64 rfl (by simp) ?_))
  go_simp
  obtain ⟨S, hS⟩ : ∃ S, w5.heap.size = S := ⟨_, rfl⟩
  have hSO : S = O + 1 := by rw [← hS]; exact H5S.out
  generalize hw6 : World.setRow (World.alloc w5 _) _ _ = w6
  have hU7 : Upd [] w w6 := by rw [← hw6]; exact (hU5.alloc _).setRow _ _ (by have := hU5.size; omega)
  have h6 : w6.heap[S]? = some (.cells (first512.list.map U64).toArray 41 (0, 0)) := by rw [← hw6, hS]; exact setRow_heap _ _ _ _ 41 (0, 0) (hget_new hS.symm)
  have h6O : w6.heap[O]? = some (.cells ((upTo (sha512 m) 64 0).map U8).toArray 23 (0, 0)) := by rw [← hw6, setRow_other _ _ _ _ (by omega)]; exact hget_old H5O.out
  have h6B : w6.heap[B]? = some (.cells (zrow8 64) 23 (0, 0)) := by rw [← hw6, setRow_other _ _ _ _ (by omega)]; exact hget_old H5B.out
  have h6L : OwnB w6 (B + 1) (.slice (some ⟨g, 0, none⟩) N c4) L := by rw [← hw6]; exact (H5L.out.alloc _).upd ((Upd.refl [w5.heap.size] _).setRow _ _ (by simp)) (by simp [Value.ownBlock]; omega)
  rw [hS]
  have h6w : w.heap.size ≤ S := by have := hU5.size; omega
  have H6 := Lib.hid h6
  have H6O := Lib.hid h6O
  have H6B := Lib.hid h6B
  have HU7 := Lib.hid hU7
  have hL6 := fun (w' : World) (u : Upd [S] w6 w') => h6L.upd u (by simp [Value.ownBlock]; omega)
  have H6L := Lib.hid hL6
  have hSO' : O < S ∧ B < S ∧ g < S := by omega
  clear hw6 hS h6 h6O h6B h6L hU5 hU7 H5O H5B H5L H5S hF4 hL6 hSO
  go_wp2
  go_loopw [7] (fun i wr => ∃ k a : Nat, a = 128 * k ∧ k ≤ n ∧ i = .int .i64 a ∧ Upd [S] w6 wr ∧ Hid (wr.heap[S]? = some (.cells ((led block512 128 first512 L k).list.map U64).toArray 41 (0, 0)))) (fun i _ => N - (intOf i).toNat)
  case atStart => exact ⟨0, 0, rfl, by omega, rfl, Upd.refl _ _, H6⟩
  case round =>
    obtain ⟨k, a, ha, hk, rfl, hU, HR⟩ := hrel
    by_cases hlt : k < n
    · have hbl : a + 128 ≤ N ∧ a < N := by have := HN.out; omega
      have hai : (a : Int) < (N : Int) := by omega
      have haN : (a : Int) + 128 ≤ 140737488355328 := by omega
      have HA := Lib.hid ha
      obtain ⟨wo, rfl⟩ : ∃ wo : World, wo = wr := ⟨_, rfl⟩
      obtain ⟨D, hD⟩ : ∃ D, wo.heap.size = D := ⟨_, rfl⟩
      have hSD : S < D := by have := lt_of_heap HR.out; omega
      obtain ⟨blk, hblk⟩ : ∃ blk, (L.drop a).take 128 = blk := ⟨_, rfl⟩
      have hbl64 : blk.length = 128 := by rw [← hblk]; simp; have := HNN.out; omega
      have hget : ∀ j (h : j < 128), ∃ y, L[a + j]? = some y ∧ blk[j]? = some y := by
        intro j hj
        have h1 : a + j < L.length := by have := HNN.out; omega
        refine ⟨L[a + j], List.getElem?_eq_getElem h1, ?_⟩
        rw [← hblk, List.getElem?_take_of_lt hj, List.getElem?_drop, List.getElem?_eq_getElem h1]
      have HGET := Lib.hid hget
      have HBLK := Lib.hid hblk
      have HD := Lib.hid hD
      clear hget hblk ha
      go_upto_block 2 with (fail)
      generalize hw7 : World.alloc wo _ = w7
      have hU8 : Upd [] wo w7 := by rw [← hw7]; exact (Upd.refl _ wo).alloc _
      have h7 : w7.heap[D]? = some (.cells ((upTo blk 128 0).map U8).toArray 43 (0, 0)) := by rw [← hw7]; exact hget_new hD.symm
      have H7 := Lib.hid h7
      clear hw7 hD h7
      go_wp2
      go_loopw [9] (fun i wr => ∃ j : Nat, j ≤ 128 ∧ i = .int .i64 j ∧ Upd [] wo wr ∧ Hid (wr.heap[D]? = some (.cells ((upTo blk 128 j).map U8).toArray 43 (0, 0)))) (fun i _ => 128 - (intOf i).toNat)
      case atStart => exact ⟨0, by omega, rfl, hU8, H7⟩
      case round =>
        obtain ⟨j, hj, rfl, hUi, HD7⟩ := hrel
        by_cases hjl : j < 128
        · obtain ⟨y, hy1, hy2⟩ := HGET.out j hjl
          have hOL := (H6L.out _ hU).upd0 hUi
          have haj : a + j < L.length := by have := HNN.out; omega
          have hc : wr.cell? ⟨g, a + j, none⟩ = some (U8 y) := by
            have := OwnB.cell (n := N) hOL (a + j) haj
            rw [this]
            rw [List.getElem?_eq_getElem haj] at hy1
            rw [Option.some.inj hy1]
          have hup := upTo_length blk 128 j hbl64 hj
          have hcell : ∃ z, wr.cell? ⟨D, j, none⟩ = some (U8 z) := by
            rw [cell_of_row _ _ j _ _ _ HD7.out]
            have : j < (upTo blk 128 j).length := by rw [hup]; exact hjl
            exact ⟨(upTo blk 128 j)[j], by simp [this]⟩
          obtain ⟨z, hcell⟩ := hcell
          have hfr : wr.frozen? ⟨D, j, none⟩ = false := frozen_of_row _ _ j _ _ HD7.out
          have hset := heap_setCell_same wr D j _ 43 (U8 y) HD7.out
          have hjb : j < blk.length := by omega
          have hyb : blk[j]'hjb = y := by rw [List.getElem?_eq_getElem hjb] at hy2; exact Option.some.inj hy2
          have hst := upTo_step blk 128 j hbl64 hjl
          rw [hyb] at hst
          rw [List.setIfInBounds_toArray, ← List.map_set, hst] at hset
          have HSET := Lib.hid hset
          have haji : (a : Int) + (j : Int) < (N : Int) := by omega
          have hji : (j : Int) < 128 := by omega
          have hUs : Upd [] wo (wr.setCell ⟨D, j, none⟩ (U8 y)) := hUi.setCell _ _ (by have := HD.out; simp; omega)
          clear hset hst hyb hy1 hy2 hOL hup
          go_wp2
          go_roundw
          case rel => exact ⟨j + 1, by omega, by go_num, hUs, HSET⟩
          case measure => simp [intOf]; omega
        · obtain rfl : j = 128 := by omega
          have hD7 := HD7.out
          rw [upTo_all blk 128 hbl64] at hD7
          have hRS := hUi.heap HR.out (by simp)
          obtain ⟨st, hst⟩ : ∃ st, led block512 128 first512 L k = st := ⟨_, rfl⟩
          rw [hst] at hRS
          have hs64 : (Tryd.prog.info? 43).map (·.size) = some ((blk.map U8).toArray).size := by simp only [List.size_toArray, List.length_map, hbl64]; exact size_b128
          have hblock := fun w h => block512_any w st blk hbl64 h
          obtain ⟨st2, hst2⟩ : ∃ st2, block512 st blk = st2 := ⟨_, rfl⟩
          rw [hst2] at hblock
          have HST := Lib.hid hst
          have HST2 := Lib.hid hst2
          have HBL := Lib.hid hblock
          have hG := ((HG.out.upd HU7.out (by simp)).upd hU (by have := HG.out.lt'; simp; omega)).upd hUi (by simp)
          have HGG := Lib.hid hG
          clear hst hst2 hblock hG
          go_wp2_with (first
            | (refine wpList_load_row rfl 41 _ rfl S rfl 41 _ (0, 0) _ hRS Tryd.underlying41 rfl size_s64 ?_)
            | (refine wpList_load_row rfl 43 _ rfl D rfl 43 _ (0, 0) _ hD7 Tryd.underlying43 rfl hs64 ?_)
            | (go_at_call 22; refine (HBL.out _ HGG.out).mono ?_; rintro e w8 ⟨rfl, hU9⟩)
            | (refine wpList_store_row rfl 41 _ _ rfl S (st2.list.map U64).toArray rfl rfl 41 _ (hU9.heap hRS (by simp)) size_s64 rfl (by simp) ?_))
          go_simp
          go_wp2
          refine ⟨⟨k + 1, ?_, ?_, ?_, ?_⟩, ?_⟩
          · have h2 := HA.out; clear HA HN HD; omega
          · have h2 := HA.out; clear HA HN HD; omega
          · exact ((hU.trans0 hUi).trans0 hU9).setRow _ _ (by simp)
          · show _ = _
            rw [setRow_heap w8 S _ _ 41 (0, 0) (hU9.heap hRS (by simp)), led, ← HA.out, HBLK.out, HST.out, HST2.out]
          · simp [intOf]; omega
    · obtain rfl : k = n := by omega
      obtain rfl : a = N := by have := HN.out; omega
      have hRS := HR.out
      obtain ⟨st, hst⟩ : ∃ st, led block512 128 first512 L k = st := ⟨_, rfl⟩
      rw [hst] at hRS
      have hsm : sha512 m = hash64 st := by rw [HSUM.out, hst]
      obtain ⟨H, hH⟩ : ∃ H, hash64 st = H := ⟨_, rfl⟩
      rw [hH] at hsm
      have hHl : H.length = 64 := by rw [← hH]; exact hash64_length st
      have hget : ∀ i (h : i < 64), H[i]'(by omega) = (st.list.getD (i / 8) 0 >>> (56 - 8 * (i % 8))).setWidth 8 := by subst hH; exact hash64_get st
      have hOO := hU.heap H6O.out (by simp; omega)
      have hBB := hU.heap H6B.out (by simp; omega)
      rw [hsm] at hOO
      have HSM := Lib.hid hsm
      have HGET := Lib.hid hget
      have HRS := Lib.hid hRS
      have HOO := Lib.hid hOO
      have HBB := Lib.hid hBB
      have HU := Lib.hid (HU7.out.trans' hU (fun i hi hl => by simp at hi; omega))
      obtain ⟨wo, rfl⟩ : ∃ wo : World, wo = wr := ⟨_, rfl⟩
      clear hst hH hget hRS hOO hBB ha hU hsm
      go_wp2
      go_loopw [10] (fun i wr => ∃ j : Nat, j ≤ 64 ∧ i = .int .i64 j ∧ Upd [O] wo wr ∧ Hid (wr.heap[O]? = some (.cells ((upTo H 64 j).map U8).toArray 23 (0, 0)))) (fun i _ => 64 - (intOf i).toNat)
      case atStart => exact ⟨0, by omega, rfl, Upd.refl _ _, HOO⟩
      case round =>
        obtain ⟨j, hj, rfl, hU, HO⟩ := hrel
        by_cases hlt : j < 64
        · have hkH : j < H.length := by rw [hHl]; exact hlt
          obtain ⟨q, hq⟩ : ∃ q, j / 8 = q := ⟨_, rfl⟩
          obtain ⟨r, hr⟩ : ∃ r, j % 8 = r := ⟨_, rfl⟩
          have hqi : (j : Int) / 8 = (q : Int) := by omega
          have hri : (j : Int) % 8 = (r : Int) := by omega
          have hq8 : q < 8 := by omega
          have hq8i : (q : Int) < 8 := by omega
          have hr4 : r < 8 := by omega
          have hr4i : (r : Int) < 8 := by omega
          have hsh : (8 * (r : Int)) ≤ 56 := by omega
          have hsh0 : 0 ≤ 56 - (8 * (r : Int)) := by omega
          obtain ⟨y, hy⟩ : ∃ y, st.list.getD q 0 = y := ⟨_, rfl⟩
          have hc : wr.cell? ⟨S, q, none⟩ = some (U64 y) := by rw [cell_of_row _ _ q _ _ _ (hU.heap HRS.out (by simp; omega)), st_get U64 st q hq8, hy]
          have hcell : ∃ z, wr.cell? ⟨O, j, none⟩ = some (U8 z) := by
            rw [cell_of_row _ _ j _ _ _ HO.out]
            have : j < (upTo H 64 j).length := by rw [upTo_length H 64 j hHl hj]; exact hlt
            exact ⟨(upTo H 64 j)[j], by simp [this]⟩
          obtain ⟨z, hcell⟩ := hcell
          have hfr : wr.frozen? ⟨O, j, none⟩ = false := frozen_of_row _ _ j _ _ HO.out
          have hset := heap_setCell_same wr O j _ 23 (U8 (H[j]'hkH)) HO.out
          rw [List.setIfInBounds_toArray, ← List.map_set, upTo_step H 64 j hHl hlt] at hset
          have hHk := HGET.out j hlt
          rw [hq, hr, hy] at hHk
          have hU' := hU.setCell ⟨O, j, none⟩ (U8 (H[j]'hkH)) (fun _ => by simp)
          rw [show 56 - 8 * r = (56 - 8 * r) % 18446744073709551616 by omega] at hHk
          rw [hHk] at hset hU'
          have HSET := Lib.hid hset
          have HU' := Lib.hid hU'
          have hki : (j : Int) < 64 := by omega
          clear hq hr hy hset hHk hU'
          go_wp2
          go_roundw
          case rel => exact ⟨j + 1, by omega, by go_num, HU'.out, HSET⟩
          case measure => simp [intOf]; omega
        · obtain rfl : j = 64 := by omega
          have hOO := HO.out
          rw [upTo_all H 64 hHl] at hOO
          have hBB := hU.heap HBB.out (by simp; omega)
          have hs : (Tryd.prog.info? 23).map (·.size) = some ((H.map U8).toArray).size := by simp only [List.size_toArray, List.length_map, hHl]; exact size_w64b
          have ho : (zrow8 64).size = ((H.map U8).toArray).size := by simp only [List.size_toArray, List.length_map, hHl, zrow8_size]
          have hal : ((H.map U8).toArray).all (·.oneCell') = true := by simp
          go_wp2_with (first
            | (refine wpList_load_row rfl 23 _ rfl O rfl 23 _ (0, 0) _ hOO Tryd.underlying23 rfl hs ?_)
            | (refine wpList_store_row rfl 23 _ _ rfl B _ rfl rfl 23 _ hBB hs ho hal ?_))
          refine bodyPost_ret (v := .tuple #[.agg (H.map U8).toArray, .bool true]) (results_row_tmp (fn := Tryd.f11) (p := 2) (u := 3) (ty := 23) rfl _ _ B 23 _ (0, 0) _ rfl (setRow_heap wr B _ _ 23 (0, 0) hBB) Tryd.underlying23 rfl hs) rfl ⟨ret_eq ?_, ?_⟩
          · rw [HSM.out]
          · exact (HU.out.trans' hU (fun i hi hl => by simp at hi; have := HB.out; omega)).setRow _ _ (by have := HB.out; omega)
end Go.Proofs.YtdejiachopiaaabDoor
