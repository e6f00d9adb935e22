/-
  roomy, wipe of package 24.
-/
import Derived.Test.YtjeddokenpkpnaaRefE
namespace Go.Proofs.Ytjeddokenpkpnaa
open Go Go.RowKit Go.Proofs Go.Maps
/-- with 64 marks behind it -/
def room24 (b : List (BitVec 8)) : List (BitVec 8) := b ++ List.replicate 64 201
theorem room24_length (b : List (BitVec 8)) : (room24 b).length = b.length + 64 := by simp [room24]
theorem room24_take (b : List (BitVec 8)) (n : Nat) (h : b.length = n) : (room24 b).take n = b := by rw [room24, List.take_left' h]
set_option maxRecDepth 100000 in
set_option maxHeartbeats 3200000 in
theorem roomy_ (w : World) (v : Value) (b : List (BitVec 8)) (h : RdB w v b) (hb : b.length ≤ 3000) :
    Calls Try.prog 44 #[v] w fun e w' => ∃ v', e = .returned v' ∧ OwnB w' w.heap.size v' (room24 b) ∧ Upd [] w w' := by
  obtain ⟨A, c, eA, _⟩ := h.isSlice
  subst eA
  obtain ⟨N, hN⟩ : ∃ n, b.length = n := ⟨_, rfl⟩
  rw [hN] at h hb ⊢
  have H := Lib.hid h
  have HN := Lib.hid hN
  have HB : Hid (N ≤ 3000) := hb
  have hni : (N : Int) ≤ 3000 := by omega
  clear h hN hb
  go_enter Try.func44, Try.ntmps44
  go_wp2_with (fail)
  go_loopw [3, 4] (fun cv iv wr => ∃ i : Nat, iv = .int .i64 i ∧ i ≤ N ∧ OwnB wr w.heap.size cv (b.take i) ∧ Upd [] w wr) (fun _ iv _ => N - (intOf iv).toNat)
  case atStart => exact ⟨0, rfl, Nat.zero_le _, OwnB.nil _ _, Upd.refl _ _⟩
  case round =>
    obtain ⟨i, rfl, hi, hO, hU⟩ := hrel
    have HO := Lib.hid hO
    have HU := Lib.hid hU
    have HI : Hid (i ≤ N) := hi
    clear hO hU hi
    by_cases hlt : i < N
    · have hli : (i : Int) < (N : Int) := by omega
      have hil : i < b.length := by rw [HN.out]; exact hlt
      obtain ⟨g, p, c', e, _, _, hBy⟩ := H.out.at (by rw [HN.out]; omega)
      injection e with e e1 e2
      clear e1 e2
      subst e
      obtain ⟨y, hy⟩ : ∃ y, b[i] = y := ⟨_, rfl⟩
      have hc : wr.cell? ⟨g, p + i, none⟩ = some (U8 y) := by
        have := (hBy.upd HU.out (by simp)) i hil
        rw [hy] at this
        exact this
      have HT : Hid (b.take (i + 1) = b.take i ++ [y]) := by show b.take (i + 1) = b.take i ++ [y]; rw [take_snoc' b i hil, hy]
      clear hBy hy hil
      go_wp2_with (with_reducible refine bsB (by with_unfolding_all exact rfl) ?_)
      intro g2 w2 hg2 k2 hU2
      have hO2 := HO.out.upd0 hU2
      have hR2 := rd_block k2 (by simp [maxLen])
      have hB2 : w.heap.size ≤ w2.heap.size := (HU.out.trans hU2).size
      have hl2 : (b.take i).length + [y].length ≤ 140737488355328 := by rw [List.length_take, HN.out]; have := HB.out; simp; omega
      have HU2 := Lib.hid (HU.out.trans hU2)
      clear hg2 k2 hU2 hc
      go_wp2_with (refine append_rd rfl _ _ rfl w.heap.size _ (b.take i) (by with_unfolding_all exact rfl) hO2 _ [y] (by with_unfolding_all exact rfl) hR2 hl2 hB2 ?_)
      intro v3 w3 hO3 _ hU3 _
      have HO3 : Hid (OwnB w3 w.heap.size v3 (b.take i ++ [y])) := hO3
      have HU3 : Hid (Upd [] w w3) := HU2.out.trans' hU3 (fun k hm hl => by have := (hO2.lt k (by simpa using hm)).1; omega)
      clear hO3 hU3 hO2 hR2 hB2 hl2
      go_wp2_with (fail)
      go_roundw
      case rel => exact ⟨i + 1, by go_num, by omega, by rw [HT.out]; exact HO3.out, HU3.out⟩
      case measure => simp [intOf]; omega
    · have hin : i = N := by have := HI.out; omega
      have hli : ¬ (i : Int) < (N : Int) := by omega
      have HO4 : Hid (OwnB wr w.heap.size u3 b) := by
        have := HO.out
        rwa [hin, List.take_of_length_le (by rw [HN.out]; exact Nat.le_refl _)] at this
      clear hin hlt
      go_wp2_with (fail)
      go_loopw [3, 5] (fun cv iv wq => ∃ j : Nat, iv = .int .i64 j ∧ j ≤ 64 ∧ OwnB wq w.heap.size cv (b ++ List.replicate j 201) ∧ Upd [] w wq) (fun _ iv _ => 64 - (intOf iv).toNat)
      case atStart => exact ⟨0, rfl, Nat.zero_le _, by simpa using HO4.out, HU.out⟩
      case round =>
        obtain ⟨j, rfl, hj, hOq, hUq⟩ := hrel
        have HOq := Lib.hid hOq
        have HUq := Lib.hid hUq
        clear hOq hUq
        by_cases hlj : j < 64
        · have hji : (j : Int) < 64 := by omega
          go_wp2_with (with_reducible refine bsB (y := 201#8) (by with_unfolding_all exact rfl) ?_)
          intro g2 w2 hg2 k2 hU2
          have hO2 := HOq.out.upd0 hU2
          have hR2 := rd_block k2 (by simp [maxLen])
          have hB2 : w.heap.size ≤ w2.heap.size := (HUq.out.trans hU2).size
          have hl2 : (b ++ List.replicate j (201#8)).length + [201#8].length ≤ 140737488355328 := by rw [List.length_append, HN.out]; have := HB.out; simp; omega
          have HU2 := Lib.hid (HUq.out.trans hU2)
          clear hg2 k2 hU2
          go_wp2_with (refine append_rd rfl _ _ rfl w.heap.size _ (b ++ List.replicate j 201) (by with_unfolding_all exact rfl) hO2 _ [201#8] (by with_unfolding_all exact rfl) hR2 hl2 hB2 ?_)
          intro v3 w3 hO3 _ hU3 _
          have HO3 : Hid (OwnB w3 w.heap.size v3 (b ++ List.replicate (j + 1) 201)) := by
            show OwnB w3 w.heap.size v3 (b ++ List.replicate (j + 1) 201)
            rw [List.replicate_succ']; exact hO3
          have HU3 : Hid (Upd [] w w3) := HU2.out.trans' hU3 (fun k hm hl => by have := (hO2.lt k (by simpa using hm)).1; omega)
          clear hO3 hU3 hO2 hR2 hB2 hl2
          go_wp2_with (fail)
          go_roundw
          case rel => exact ⟨j + 1, by go_num, by omega, HO3.out, HU3.out⟩
          case measure => simp [intOf]; omega
        · have hj64 : j = 64 := by omega
          subst hj64
          go_wp2_with (fail)
          go_ret
          exact ⟨_, rfl, HOq.out, HUq.out⟩
set_option maxRecDepth 100000 in
set_option maxHeartbeats 3200000 in
theorem wipe_ (w : World) (lo : Nat) (id fr to : Int) (v : Value) (b : List (BitVec 8)) (h : OwnB w lo v b) (hlo : lo ≤ w.heap.size) (hb : b.length ≤ 3000) :
    Calls Try.prog 35 #[.agg (msgC id fr to v)] w fun e w' => (∃ z, e = .returned z) ∧ Upd v.ownBlock.toList w w' := by
  obtain ⟨A, c, eA⟩ := h.isSlice
  subst eA
  obtain ⟨N, hN⟩ : ∃ n, b.length = n := ⟨_, rfl⟩
  rw [hN] at h hb ⊢
  have H := Lib.hid h
  have HN := Lib.hid hN
  have HB : Hid (N ≤ 3000) := hb
  have HLO := Lib.hid hlo
  have hni : (N : Int) ≤ 3000 := by omega
  clear h hN hb hlo
  go_enter Try.func35, Try.ntmps35
  go_wp2_with (with_reducible refine arm_box (by with_unfolding_all exact rfl) ?_)
  intro b1 w1 hb1 k1 hU1 hz1
  change w1.heap[b1]? = some (.cells (msgC id fr to (.slice A N c)) 32 (0, 0)) at k1
  have HK1 := Lib.hid k1
  have HU1 := Lib.hid hU1
  have HNB : Hid ((Value.slice A N c).ownBlock ≠ some b1) := fun hk => cells_ne (H.out.upd0 hU1) k1 (by decide) hk
  clear hb1 hU1 hz1 k1
  go_wp2_with (fail)
  go_loopw [3] (fun iv wr => ∃ (i : Nat) (l : List (BitVec 8)), iv = .int .i64 i ∧ i ≤ N ∧ l.length = N ∧ OwnB wr lo (.slice A N c) l ∧ Upd (Value.slice A N c).ownBlock.toList w1 wr) (fun iv _ => N - (intOf iv).toNat)
  case atStart => exact ⟨0, b, rfl, Nat.zero_le _, HN.out, H.out.upd0 HU1.out, Upd.refl _ _⟩
  case round =>
    obtain ⟨i, l, rfl, hi, hl, hO, hU⟩ := hrel
    have HO := Lib.hid hO
    have HU := Lib.hid hU
    have HI : Hid (i ≤ N) := hi
    have HL := Lib.hid hl
    have c3 : wr.cell? ⟨b1, 3, none⟩ = some (.slice A N c) := by rw [cell_of_row _ _ _ _ _ _ (hU.heap HK1.out (by simp; exact HNB.out))]; rfl
    clear hO hU hi hl
    by_cases hlt : i < N
    · have hli : (i : Int) < (N : Int) := by omega
      have hil : i < l.length := by rw [HL.out]; exact hlt
      obtain ⟨g, cap, e, _⟩ := HO.out.at (by omega)
      injection e with e e1 e2
      clear e1 e2
      subst e
      have hc := OwnB.cell HO.out i hil
      have hf := OwnB.frozen HO.out i hil
      have HS := Lib.hid (OwnB.set HO.out i hil 9)
      have HUS : Hid (Upd (Value.slice (some ⟨g, 0, none⟩) N c).ownBlock.toList w1 (wr.setCell ⟨g, i, none⟩ (U8 9))) := HU.out.setCell _ _ (fun _ => by simp [Value.ownBlock])
      obtain ⟨y, hy⟩ : ∃ y, l[i] = y := ⟨_, rfl⟩
      rw [hy] at hc
      clear hy hil
      go_wp2_with (fail)
      go_roundw
      case rel => exact ⟨i + 1, l.set i 9, by go_num, by omega, by rw [List.length_set]; exact HL.out, HS.out, HUS.out⟩
      case measure => simp [intOf]; omega
    · have hin : i = N := by have := HI.out; omega
      have hli : ¬ (i : Int) < (N : Int) := by omega
      clear hin hlt
      go_wp2_with (fail)
      clear c3
      go_loopw [4, 5] (fun gv iv wq => ∃ (j : Nat) (l : List (BitVec 8)), iv = .int .i64 j ∧ j ≤ 64 ∧ l.length = N + j ∧ OwnB wq lo gv l ∧ (∀ k, gv.ownBlock = some k → (Value.slice A N c).ownBlock = some k ∨ w1.heap.size ≤ k) ∧ Upd (Value.slice A N c).ownBlock.toList w1 wq) (fun _ iv _ => 64 - (intOf iv).toNat)
      case atStart => exact ⟨0, l, rfl, Nat.zero_le _, HL.out, HO.out, fun k hk => .inl hk, HU.out⟩
      case round =>
        obtain ⟨j, l', rfl, hj, hl', hOq, hGq, hUq⟩ := hrel
        have HOq := Lib.hid hOq
        have HUq := Lib.hid hUq
        have HGq := Lib.hid hGq
        have HLq := Lib.hid hl'
        obtain ⟨GA, gc, eg⟩ := hOq.isSlice
        rw [hl'] at eg
        clear hOq hUq hGq hl'
        by_cases hlj : j < 64
        · have hji : (j : Int) < 64 := by omega
          clear eg
          go_wp2_with (with_reducible refine bsB (y := 9#8) (by with_unfolding_all exact rfl) ?_)
          intro g2 w2 hg2 k2 hU2
          have hO2 := HOq.out.upd0 hU2
          have hR2 := rd_block k2 (by simp [maxLen])
          have hB2 : lo ≤ w2.heap.size := by have := HLO.out; have := HU1.out.size; have := (HUq.out).size; have := hU2.size; omega
          have hl2 : l'.length + [9#8].length ≤ 140737488355328 := by rw [HLq.out]; have := HB.out; simp; omega
          have HU2 := Lib.hid hU2
          clear hg2 k2 hU2
          go_wp2_with (refine append_rd rfl _ _ rfl lo _ l' (by with_unfolding_all exact rfl) hO2 _ [9#8] (by with_unfolding_all exact rfl) hR2 hl2 hB2 ?_)
          intro v3 w3 hO3 _ hU3 hG3
          have HO3 : Hid (OwnB w3 lo v3 (l' ++ [9])) := hO3
          have HU3 : Hid (Upd (Value.slice A N c).ownBlock.toList w1 w3) := (HUq.out.trans0 HU2.out).trans' hU3 (fun k hm hl => by
            rcases HGq.out k (by simpa using hm) with h | h
            · simpa using h
            · omega)
          have HG3 : Hid (∀ k, v3.ownBlock = some k → (Value.slice A N c).ownBlock = some k ∨ w1.heap.size ≤ k) := fun k hk => by
            rcases hG3.block k hk with h | h
            · exact HGq.out k h
            · right; have := HUq.out.size; have := HU2.out.size; omega
          clear hO3 hU3 hO2 hR2 hB2 hl2 hG3
          go_wp2_with (fail)
          go_roundw
          case rel => exact ⟨j + 1, l' ++ [9], by go_num, by omega, by rw [List.length_append, HLq.out]; rfl, HO3.out, HG3.out, HU3.out⟩
          case measure => simp [intOf]; omega
        · have hj64 : ¬ (j : Int) < 64 := by omega
          subst eg
          go_wp2_with (fail)
          go_ret
          exact ⟨⟨_, rfl⟩, (HU1.out.of0).trans HUq.out⟩
end Go.Proofs.Ytjeddokenpkpnaa
