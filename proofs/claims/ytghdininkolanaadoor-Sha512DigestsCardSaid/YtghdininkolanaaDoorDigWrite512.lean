/-
  Write of a sha512.Digest: what was written, byte for byte, stands in state, rest and length.
-/
import Derived.Test.YtghdininkolanaaDoorDig512
import Derived.Test.YtghdininkolanaaDoorCopy
import Derived.Test.YtghdininkolanaaDoorMid
namespace Go.Proofs.YtghdininkolanaaDoor
open Go Go.RowKit Go.Proofs
/-- the Digest at block b, to which the bytes m were written -/
def DigOf512 (w : World) (b : Nat) (m : List (BitVec 8)) : Prop := ∃ s r, Dig512 w b s r (m.length % 128) (BitVec.ofNat 64 m.length) ∧ Held block512 128 first512 s r m
theorem splice_dig512 (s : St 64) (r x : List (BitVec 8)) (h : Nat) (n : BitVec 64) (k : Nat) (hr : r.length = 128) (hk : k + x.length ≤ 128) :
    splice (s.list.map U64 ++ r.map U8 ++ [.int .i64 (h : Int), U64 n]) (8 + k) (x.map U8) = s.list.map U64 ++ (splice r k x).map U8 ++ [.int .i64 (h : Int), U64 n] := by
  have h8 : (s.list.map U64).length = 8 := rfl
  unfold splice
  rw [List.append_assoc, List.take_append, List.drop_append, h8, List.take_of_length_le (by omega), List.drop_eq_nil_of_le (by omega), List.nil_append]
  rw [show 8 + k - 8 = k by omega, show 8 + k + (x.map U8).length - 8 = k + x.length by simp; omega]
  rw [List.take_append_of_le_length (by simp; omega), List.drop_append_of_le_length (by simp; omega)]
  simp [List.append_assoc]
theorem dig512_have (s : St 64) (r : List (BitVec 8)) (h h' : Nat) (n : BitVec 64) (hr : r.length = 128) : (dig512Cells s r h n).setIfInBounds 136 (.int .i64 (h' : Int)) = dig512Cells s r h' n := by
  have hl : (s.list.map U64 ++ r.map U8).length = 136 := by simp [St.list, hr]
  unfold dig512Cells
  rw [List.setIfInBounds_toArray, List.set_append_right _ _ (by omega), hl]
  rfl
theorem dig512_len (s : St 64) (r : List (BitVec 8)) (h : Nat) (n y : BitVec 64) (hr : r.length = 128) : (dig512Cells s r h n).setIfInBounds 137 (U64 y) = dig512Cells s r h y := by
  have hl : (s.list.map U64 ++ r.map U8).length = 136 := by simp [St.list, hr]
  unfold dig512Cells
  rw [List.setIfInBounds_toArray, List.set_append_right _ _ (by omega), hl]
  rfl
theorem dig512_state (s t : St 64) (r : List (BitVec 8)) (h : Nat) (n : BitVec 64) : splice (s.list.map U64 ++ r.map U8 ++ [.int .i64 (h : Int), U64 n]) 0 (t.list.map U64) = t.list.map U64 ++ r.map U8 ++ [.int .i64 (h : Int), U64 n] := by
  simp [splice, St.list]
theorem dig512_cells {w : World} {b : Nat} {s : St 64} {r : List (BitVec 8)} {k : Nat} {n : BitVec 64} {T : TypeId} {fr : Nat × Nat} (hr : r.length = 128) (h : w.heap[b]? = some (.cells (dig512Cells s r k n) T fr)) :
    w.cell? ⟨b, 136, none⟩ = some (.int .i64 (k : Int)) ∧ w.cell? ⟨b, 137, none⟩ = some (U64 n) := by
  have hl : (s.list.map U64 ++ r.map U8).length = 136 := by simp [St.list, hr]
  refine ⟨?_, ?_⟩
  · rw [cell_of_row _ _ _ _ _ _ h]
    simp only [dig512Cells, List.getElem?_toArray]
    rw [List.getElem?_append_right (by omega), hl]; rfl
  · rw [cell_of_row _ _ _ _ _ _ h]
    simp only [dig512Cells, List.getElem?_toArray]
    rw [List.getElem?_append_right (by omega), hl]; rfl
theorem DigOf512.upd {w w' : World} {b : Nat} {m : List (BitVec 8)} {S : List Nat} (h : DigOf512 w b m) (u : Upd S w w') (hn : b ∉ S) : DigOf512 w' b m := by
  obtain ⟨s, r, ⟨h1, h2⟩, h3⟩ := h
  exact ⟨s, r, ⟨h1, u.heap h2 hn⟩, h3⟩
/-- within Write: to state and rest the bytes m were written; the length is told ahead -/
def DigIn512 (w : World) (b : Nat) (T : BitVec 64) (m : List (BitVec 8)) : Prop := ∃ s r, Dig512 w b s r (m.length % 128) T ∧ Held block512 128 first512 s r m
set_option maxRecDepth 100000 in
set_option maxHeartbeats 3200000 in
theorem write512 (w : World) (b : Nat) (v : Value) (m p : List (BitVec 8)) (hd : DigOf512 w b m) (hv : RdB w v p) (hb : 0 < p.length → v.ownBlock ≠ some b) (hp63 : p.length ≤ 281474976710656) (hg : Gl512 w) (hgb : b ≠ 5) :
    Calls Tryd.prog 28 #[.pointer (some ⟨b, 0, none⟩), v] w fun e w' => (∃ x, e = .returned x) ∧ DigOf512 w' b (m ++ p) ∧ Upd [b] w w' := by
  obtain ⟨s0, r0, ⟨hr0, hh0⟩, hheld0⟩ := hd
  obtain ⟨A, cap, rfl, hcap1, hcap2⟩ := hv.isSlice
  obtain ⟨x0, hx0⟩ : ∃ x, BitVec.ofNat 64 m.length = x := ⟨_, rfl⟩
  rw [hx0] at hh0
  have hT : x0 + BitVec.ofNat 64 p.length = BitVec.ofNat 64 (m ++ p).length := by rw [← hx0, ← BitVec.ofNat_add, List.length_append]
  obtain ⟨whole, hwhole⟩ : ∃ l, m ++ p = l := ⟨_, rfl⟩
  rw [hwhole] at hT ⊢
  obtain ⟨c136, c137⟩ := dig512_cells hr0 hh0
  have f137 : w.frozen? ⟨b, 137, none⟩ = false := frozen_of_row _ _ _ _ _ hh0
  have hset0 := heap_setCell_same w b 137 _ 69 (U64 (x0 + BitVec.ofNat 64 p.length)) hh0
  rw [dig512_len s0 r0 _ _ _ hr0, hT] at hset0
  have hUa : Upd [b] w (w.setCell ⟨b, 137, none⟩ (U64 (x0 + BitVec.ofNat 64 p.length))) := (Upd.refl [b] w).setCell _ _ (by simp)
  have hda : DigIn512 (w.setCell ⟨b, 137, none⟩ (U64 (x0 + BitVec.ofNat 64 p.length))) b (BitVec.ofNat 64 whole.length) m := ⟨s0, r0, ⟨hr0, by rw [hT]; exact hset0⟩, hheld0⟩
  have hva := hv.upd' hUa (fun h0 k hk hm => by simp at hm; subst hm; exact hb h0 hk)
  obtain ⟨n0, hn0⟩ : ∃ n, p.length = n := ⟨_, rfl⟩
  rw [hn0] at hUa hda hva hcap1 hp63 hb ⊢
  have HUA := Lib.hid hUa
  have HDA := Lib.hid hda
  have HVA := Lib.hid hva
  have HW := Lib.hid hwhole
  have HG := Lib.hid hg
  have HN0 := Lib.hid hn0
  clear hwhole hg hT hset0 hUa hda hva hh0 hheld0 hn0 hx0 hv c136
  go_enter Tryd.func28, Tryd.ntmps28
  go_wp2
  obtain ⟨wa, hwa⟩ : ∃ wa, w.setCell ⟨b, 137, none⟩ (U64 (x0 + BitVec.ofNat 64 n0)) = wa := ⟨_, rfl⟩
  rw [hwa] at HUA HDA HVA ⊢
  clear hwa c137 f137
  go_loopw [1] (fun x wr => ∃ m' p' : List (BitVec 8), m' ++ p' = whole ∧ DigIn512 wr b (BitVec.ofNat 64 whole.length) m' ∧ RdB wr x p' ∧ (0 < p'.length → x.ownBlock ≠ some b) ∧ p'.length ≤ n0 ∧ Upd [b] w wr) (fun x _ => slen x)
  case atStart => exact ⟨m, p, HW.out, HDA.out, HVA.out, fun h => hb (by have := HN0.out; omega), by have := HN0.out; omega, HUA.out⟩
  case round =>
    obtain ⟨m', p', hmp, hd', hv', hb', hpl, hU⟩ := hrel
    by_cases h0 : p'.length = 0
    · obtain ⟨a, c, rfl, _, _⟩ := hv'.isSlice
      have e0 : p' = [] := List.eq_nil_of_length_eq_zero h0
      subst e0
      rw [List.append_nil] at hmp
      subst hmp
      go_wp2
      refine bodyPost_end (results_none rfl _ _ _) rfl ?_
      exact ⟨⟨_, rfl⟩, hd', hU⟩
    · obtain ⟨g, o, c, rfl, hc1, hc2, hB⟩ := hv'.at (by omega)
      have hb' := hb' (by omega)
      obtain ⟨s, r, ⟨hr, hh⟩, hheld⟩ := hd'
      obtain ⟨k, hk⟩ : ∃ k, m'.length % 128 = k := ⟨_, rfl⟩
      rw [hk] at hh
      have hk64 : k < 128 := by omega
      have hpos : 0 < p'.length := by omega
      have hk64i : (k : Int) ≤ 128 := by omega
      obtain ⟨n, hn⟩ : ∃ n, min p'.length (128 - k) = n := ⟨_, rfl⟩
      have hnb : 0 < n ∧ n ≤ p'.length ∧ n ≤ 128 - k := by omega
      obtain ⟨c136, c137⟩ := dig512_cells hr hh
      have HK := Lib.hid hk
      have HN := Lib.hid hn
      have HHELD := Lib.hid hheld
      have HH := Lib.hid hh
      have HB := Lib.hid hB
      have HM := Lib.hid hmp
      clear hk hn hheld hh hB hmp hv' c137
      go_upto_region 2 with (fail)
      refine wp_region_quiet_tail 9 (fun w' => ∃ n, w' = wr.drewN n) (by kernel_rfl) (by kernel_rfl) ⟨1, rfl⟩ ?_
      simp only [List.take_succ_cons, List.take_zero, List.drop_succ_cons, List.drop_zero]
      repeat ((refine wpQuiet_step (fun K hK => ?_)); go_simp; (try go_bits); (refine hK _ ?_; clear hK K))
      refine wpQuiet_nil ?_
      rintro _ ⟨nq, rfl⟩
      rw [if_neg (show ¬ 128 = k by omega)]
      have hrd : RdB (wr.drewN nq) (.slice (some ⟨g, o, none⟩) p'.length c) p' := .mk hc1 hc2 (show Bytes (wr.drewN nq) g o p' from HB.out)
      refine copy_bytes rfl _ _ (by rfl) b (8 + k) (128 - k) (128 - k) (by rfl) _ p' (by rfl) hrd _ _ (show (wr.drewN nq).heap[b]? = _ from HH.out) n HN.out.symm (by simp [hr, St.list]; omega) ?_
      intro w2 HG2 hU2
      clear hrd
      have hU3 : Upd [b] w w2 := (hU.drewN nq).trans hU2
      have hB2 : Bytes w2 g o p' := Bytes.upd (w := wr.drewN nq) HB.out hU2 (by simpa [Value.ownBlock] using hb')
      have hrow : w2.heap[b]? = some (.cells (dig512Cells s (splice r k (p'.take n)) k (BitVec.ofNat 64 whole.length)) 69 (0, 0)) := by
        rw [HG2.out, splice_dig512 s r _ _ _ k hr (by simp; omega)]; rfl
      obtain ⟨r2, hr2⟩ : ∃ r2, splice r k (p'.take n) = r2 := ⟨_, rfl⟩
      have hrl2 : r2.length = 128 := by rw [← hr2, length_splice _ _ _ (by simp; omega)]; exact hr
      rw [hr2] at hrow
      have HR2 := Lib.hid hr2
      have HROW := Lib.hid hrow
      have HB2 := Lib.hid hB2
      clear hr2 hB2 HB HH HG2 hU hU2 c136 hrow
      have c136 := (dig512_cells hrl2 HROW.out).1
      have f136 : w2.frozen? ⟨b, 136, none⟩ = false := frozen_of_row _ _ _ _ _ HROW.out
      obtain ⟨q, hq⟩ : ∃ q, k + n = q := ⟨_, rfl⟩
      have hqi : (k : Int) + (n : Int) = (q : Int) := by omega
      have hq128 : q ≤ 128 ∧ k ≤ q := by omega
      have HQ := Lib.hid hq
      have hset := heap_setCell_same w2 b 136 _ 69 (.int .i64 (q : Int)) HROW.out
      rw [dig512_have s r2 _ _ _ hrl2] at hset
      have HSET := Lib.hid hset
      have HCUT : Hid (∀ A : Option Addr, (A = if c = n then some ⟨g, o, none⟩ else some ⟨g, o + n, none⟩) → ∀ w', Bytes w' g o p' → RdB w' (.slice A (p'.length - n) (c - n)) (p'.drop n)) := by
        intro A hA w' hb'
        refine RdB.cut n hb' hc1 hc2 hnb.2.1 A _ _ (fun h => ?_) rfl rfl
        rw [hA, if_neg (by omega)]
      have hgb' : g ≠ b := by simpa [Value.ownBlock] using hb'
      have hOB : (Value.slice (if c = n then some ⟨g, o, none⟩ else some ⟨g, o + n, none⟩) (p'.length - n) (c - n)).ownBlock ≠ some b := by split <;> simpa [Value.ownBlock] using hgb'
      have HOB := Lib.hid hOB
      have HU4 := Lib.hid (hU3.setCell ⟨b, 136, none⟩ (.int .i64 (q : Int)) (fun _ => by simp))
      have HG3 := Lib.hid ((HG.out.upd hU3 (by simpa using Ne.symm hgb)).upd ((Upd.refl [b] w2).setCell ⟨b, 136, none⟩ (.int .i64 (q : Int)) (fun _ => by simp)) (by simpa using Ne.symm hgb))
      have HB3 := Lib.hid (HB2.out.upd ((Upd.refl [b] w2).setCell ⟨b, 136, none⟩ (.int .i64 (q : Int)) (fun _ => by simp)) (by simpa using hgb'))
      clear hOB hset hq
      by_cases hfull : q = 128
      · have ht : ((q : Int) == 128) = true := by rw [beq_iff_eq]; omega
        have HF := Lib.hid hfull
        clear hfull
        go_upto_region 6 with (fail)
        obtain ⟨w3, hw3⟩ : ∃ w3, w2.setCell ⟨b, 136, none⟩ (.int .i64 (q : Int)) = w3 := ⟨_, rfl⟩
        rw [hw3] at HSET HG3 HU4 HB3 ⊢
        clear hw3 c136 f136
        have hR0 : ∀ w', Upd [] w3 w' → w'.rangeAt b 0 (s.list.map U64) := fun w' h => range_of_row (h.heap HSET.out (by simp)) 0 _ ⟨[], r2.map U8 ++ [.int .i64 (q : Int), U64 (BitVec.ofNat 64 whole.length)], by simp, rfl⟩
        have hR8 : ∀ w', Upd [] w3 w' → w'.rangeAt b 8 (r2.map U8) := fun w' h => range_of_row (h.heap HSET.out (by simp)) 8 _ ⟨s.list.map U64, [.int .i64 (q : Int), U64 (BitVec.ofNat 64 whole.length)], by simp, rfl⟩
        have hs8 : (Tryd.prog.info? 66).map (·.size) = some (s.list.map U64).length := size_s64
        have hs64 : (Tryd.prog.info? 67).map (·.size) = some (r2.map U8).length := by rw [List.length_map, hrl2]; exact size_b128
        have HR0 := Lib.hid hR0
        have HR8 := Lib.hid hR8
        have HS8 := Lib.hid hs8
        have HS64 := Lib.hid hs64
        clear hR0 hR8 hs8 hs64
        obtain ⟨A, hA⟩ : ∃ A : Option Addr, (if c = n then some ⟨g, o, none⟩ else some ⟨g, o + n, none⟩) = A := ⟨_, rfl⟩
        rw [hA] at HOB ⊢
        have HA := Lib.hid hA
        clear hA
        refine wp_region_quiet_tail 10 (Upd [] w3) (by kernel_rfl) (by kernel_rfl) (Upd.refl _ _).drew ?_
        simp only [List.take_succ_cons, List.take_zero, List.drop_succ_cons, List.drop_zero]
        repeat (first
          | (refine wpQuiet_val rfl (quiet_load_mid 66 _ rfl b 0 rfl _ HR0.out Tryd.underlying66 rfl HS8.out) ?_)
          | (refine wpQuiet_val rfl (quiet_load_mid 67 _ rfl b 8 rfl _ HR8.out Tryd.underlying67 rfl HS64.out) ?_)
          | (refine wpQuiet_step (fun K hK => ?_)
             go_simp
             first
               | (refine ⟨_, fun _ _ => rfl, hK _ ?_⟩; clear hK K)
               | (refine ⟨_, fun w2 hw2 => (block512_any w2 s r2 hrl2 (HG3.out.upd hw2 (by simp))).mono (fun e w' h => ⟨h.1, hw2.trans h.2⟩), hK _ ?_⟩; clear hK K)
               | (refine hK _ ?_; clear hK K)))
        refine wpQuiet_nil ?_
        intro w4 hU5
        have hth : w4.there b 0 (s.list.map U64).length := there_of_row (hU5.heap HSET.out (by simp)) 0 _ (by simp [St.list])
        obtain ⟨s2, hs2⟩ : ∃ s2, block512 s r2 = s2 := ⟨_, rfl⟩
        rw [hs2]
        have HS2 := Lib.hid hs2
        have h4 := hU5.heap HSET.out (by simp)
        have h5 := setCells_heap b (s2.list.map U64) 0 w4 _ (by simp [St.list]) h4
        rw [dig512_state] at h5
        have c5 := (dig512_cells (T := 69) hrl2 h5).1
        have f5 : (w4.setCells b 0 (s2.list.map U64)).frozen? ⟨b, 136, none⟩ = false := frozen_of_row _ _ _ _ _ h5
        have h6 := heap_setCell_same _ b 136 _ 69 (.int .i64 ((0 : Nat) : Int)) h5
        rw [show (s2.list.map U64 ++ r2.map U8 ++ [Value.int .i64 (q : Int), U64 (BitVec.ofNat 64 whole.length)]).toArray = dig512Cells s2 r2 q (BitVec.ofNat 64 whole.length) from rfl, dig512_have s2 r2 _ _ _ hrl2] at h6
        have hU7 := ((HU4.out.trans0 hU5).setCells b 0 (s2.list.map U64) (fun _ => by simp)).setCell ⟨b, 136, none⟩ (.int .i64 ((0 : Nat) : Int)) (fun _ => by simp)
        have hB7 := ((HB3.out.upd hU5 (by simp)).upd ((Upd.refl [b] w4).setCells b 0 (s2.list.map U64) (by simp)) (by simpa using hgb')).upd ((Upd.refl [b] (w4.setCells b 0 (s2.list.map U64))).setCell ⟨b, 136, none⟩ (.int .i64 ((0 : Nat) : Int)) (by simp)) (by simpa using hgb')
        have H6 := Lib.hid h6
        have HU7 := Lib.hid hU7
        have HB7 := Lib.hid hB7
        clear hs2 h4 h5 h6 hU7 hB7
        have tok1 : True := trivial
        have hal : ((s2.list.map U64).toArray).all (·.oneCell') = true := by simp
        go_wp2_with (have _t := tok1; refine wpList_store_mid rfl 66 _ _ rfl b 0 _ rfl rfl hth size_s64 hal ?_; clear tok1)
        go_simp
        refine ⟨⟨m' ++ p'.take n, p'.drop n, by rw [List.append_assoc, List.take_append_drop]; exact HM.out, ⟨s2, r2, ⟨hrl2, ?_⟩, ?_⟩, HCUT.out _ HA.out.symm _ HB7.out, fun _ => HOB.out, by simp; omega, HU7.out⟩, by simp [slen]; omega⟩
        · have e : (m' ++ p'.take n).length % 128 = 0 := by
            have := HQ.out; have := HK.out; have := HF.out
            simp only [List.length_append, List.length_take, Nat.min_eq_left hnb.2.1]; omega
          rw [e]; exact H6.out
        · rw [← HS2.out, ← HR2.out]; exact HHELD.out.full (p'.take n) k HK.out (by rw [List.length_take, Nat.min_eq_left hnb.2.1]; have := HQ.out; have := HF.out; omega) (by omega)
      · have ht : ((q : Int) == 128) = false := by rw [beq_eq_false_iff_ne]; omega
        go_upto_if 43 with (fail)
        go_wp2
        refine ⟨⟨m' ++ p'.take n, p'.drop n, by rw [List.append_assoc, List.take_append_drop]; exact HM.out, ⟨s, r2, ⟨hrl2, ?_⟩, ?_⟩, HCUT.out _ rfl _ HB3.out, fun _ => HOB.out, by simp; omega, HU4.out⟩, by simp [slen]; omega⟩
        · have e : (m' ++ p'.take n).length % 128 = q := by
            have := HQ.out; have := HK.out
            simp only [List.length_append, List.length_take, Nat.min_eq_left hnb.2.1]; omega
          rw [e]; exact HSET.out
        · rw [← HR2.out]; exact HHELD.out.part (p'.take n) k HK.out (by have := HQ.out; simp; omega)
end Go.Proofs.YtghdininkolanaaDoor
