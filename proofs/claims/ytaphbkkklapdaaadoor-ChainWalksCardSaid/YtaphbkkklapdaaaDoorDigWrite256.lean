/-
  Write of a sha256.Digest: what was written, byte for byte, stands in state, rest and length.
-/
import Derived.Test.YtaphbkkklapdaaaDoorDig256
import Derived.Test.YtaphbkkklapdaaaDoorCopy
import Derived.Test.YtaphbkkklapdaaaDoorMid
namespace Go.Proofs.YtaphbkkklapdaaaDoor
open Go Go.RowKit Go.Proofs
/-- the Digest at block b, to which the bytes m were written -/
def DigOf256 (w : World) (b : Nat) (m : List (BitVec 8)) : Prop := ∃ s r, Dig256 w b s r (BitVec.ofNat 64 m.length) ∧ Held block256 64 first256 s r m
theorem splice_dig256 (s : St 32) (r x : List (BitVec 8)) (n : BitVec 64) (k : Nat) (hr : r.length = 64) (hk : k + x.length ≤ 64) :
    splice (s.list.map U32 ++ r.map U8 ++ [U64 n]) (8 + k) (x.map U8) = s.list.map U32 ++ (splice r k x).map U8 ++ [U64 n] := by
  have h8 : (s.list.map U32).length = 8 := rfl
  unfold splice
  rw [List.append_assoc, List.take_append, List.drop_append, h8, List.take_of_length_le (by omega), List.drop_eq_nil_of_le (by omega), List.nil_append]
  rw [show 8 + k - 8 = k by omega, show 8 + k + (x.map U8).length - 8 = k + x.length by simp; omega]
  rw [List.take_append_of_le_length (by simp; omega), List.drop_append_of_le_length (by simp; omega)]
  simp [List.append_assoc]
theorem dig256_len (s : St 32) (r : List (BitVec 8)) (n y : BitVec 64) (hr : r.length = 64) : (dig256Cells s r n).setIfInBounds 72 (U64 y) = dig256Cells s r y := by
  have hl : (s.list.map U32 ++ r.map U8).length = 72 := by simp [St.list, hr]
  unfold dig256Cells
  rw [List.setIfInBounds_toArray, List.set_append_right _ _ (by omega), hl]
  rfl
theorem dig256_state (s t : St 32) (r : List (BitVec 8)) (n : BitVec 64) : splice (s.list.map U32 ++ r.map U8 ++ [U64 n]) 0 (t.list.map U32) = t.list.map U32 ++ r.map U8 ++ [U64 n] := by
  simp [splice, St.list]
theorem DigOf256.upd {w w' : World} {b : Nat} {m : List (BitVec 8)} {S : List Nat} (h : DigOf256 w b m) (u : Upd S w w') (hn : b ∉ S) : DigOf256 w' b m := by
  obtain ⟨s, r, ⟨h1, h2⟩, h3⟩ := h
  exact ⟨s, r, ⟨h1, u.heap h2 hn⟩, h3⟩
set_option maxRecDepth 100000 in
set_option maxHeartbeats 3200000 in
theorem write256 (w : World) (b : Nat) (v : Value) (m p : List (BitVec 8)) (hd : DigOf256 w b m) (hv : RdB w v p) (hb : 0 < p.length → v.ownBlock ≠ some b) (hlen : m.length + p.length < 18446744073709551616) (hp63 : p.length ≤ 281474976710656) (hg : Gl256 w) (hgb : b ≠ 1) :
    Calls Tryd.prog 23 #[.pointer (some ⟨b, 0, none⟩), v] w fun e w' => (∃ x, e = .returned x) ∧ DigOf256 w' b (m ++ p) ∧ Upd [b] w w' := by
  obtain ⟨whole, hwhole⟩ : ∃ l, m ++ p = l := ⟨_, rfl⟩
  rw [hwhole]
  have HW := Lib.hid hwhole
  have HG := Lib.hid hg
  clear hwhole hg
  go_enter Tryd.func23, Tryd.ntmps23
  go_wp2
  go_loopw [1] (fun x wr => ∃ m' p' : List (BitVec 8), m' ++ p' = whole ∧ DigOf256 wr b m' ∧ RdB wr x p' ∧ (0 < p'.length → x.ownBlock ≠ some b) ∧ p'.length ≤ p.length ∧ Upd [b] w wr) (fun x _ => slen x)
  case atStart => exact ⟨m, p, HW.out, hd, hv, hb, Nat.le_refl _, Upd.refl _ _⟩
  case round =>
    obtain ⟨m', p', hmp, hd', hv', hb', hpl, hU⟩ := hrel
    by_cases h0 : p'.length = 0
    · obtain ⟨a, c, rfl, _, _⟩ := hv'.isSlice
      have e0 : p' = [] := List.eq_nil_of_length_eq_zero h0
      subst e0
      rw [List.append_nil] at hmp
      subst hmp
      go_wp2
      refine bodyPost_end (results_none rfl _ _ _) rfl ?_
      exact ⟨⟨_, rfl⟩, hd', hU⟩
    · obtain ⟨g, o, c, rfl, hc1, hc2, hB⟩ := hv'.at (by omega)
      have hb' := hb' (by omega)
      obtain ⟨s, r, ⟨hr, hh⟩, hheld⟩ := hd'
      obtain ⟨L, hL⟩ : ∃ L, m'.length = L := ⟨_, rfl⟩
      have hLb : L < 18446744073709551616 := by
        have := congrArg List.length hmp
        rw [← HW.out] at this
        simp at this
        omega
      obtain ⟨k, hk⟩ : ∃ k, L % 64 = k := ⟨_, rfl⟩
      have hk64 : k < 64 := by omega
      have hkL : ((L : Int) % 64) = (k : Int) := by omega
      have hpos : 0 < p'.length := by omega
      have hk64i : (k : Int) ≤ 64 := by omega
      obtain ⟨n, hn⟩ : ∃ n, min p'.length (64 - k) = n := ⟨_, rfl⟩
      have hnb : 0 < n ∧ n ≤ p'.length ∧ n ≤ 64 - k := by omega
      rw [hL] at hh
      have hc72 : wr.cell? ⟨b, 72, none⟩ = some (.int .u64 (L : Int)) := by
        rw [cell_of_row _ _ _ _ _ _ hh]
        have hl : (s.list.map U32 ++ r.map U8).length = 72 := by simp [St.list, hr]
        simp only [dig256Cells, List.getElem?_toArray]
        rw [List.getElem?_append_right (by omega), hl]
        simp [U64, Nat.mod_eq_of_lt hLb]
      have HL := Lib.hid hL
      have HK := Lib.hid hk
      have HN := Lib.hid hn
      have HHELD := Lib.hid hheld
      have HH := Lib.hid hh
      have HB := Lib.hid hB
      have HM := Lib.hid hmp
      clear hL hk hn hheld hh hB hmp hv'
      go_upto_region 1 with (fail)
      refine wp_region_quiet_tail 10 (fun w' => ∃ n, w' = wr.drewN n) (by kernel_rfl) (by kernel_rfl) ⟨1, rfl⟩ ?_
      simp only [List.take_succ_cons, List.take_zero, List.drop_succ_cons, List.drop_zero]
      repeat ((refine wpQuiet_step (fun K hK => ?_)); go_simp; (try go_bits); (refine hK _ ?_; clear hK K))
      refine wpQuiet_nil ?_
      rintro _ ⟨nq, rfl⟩
      rw [if_neg (show ¬ 64 = k by omega)]
      have hrd : RdB (wr.drewN nq) (.slice (some ⟨g, o, none⟩) p'.length c) p' := .mk hc1 hc2 (show Bytes (wr.drewN nq) g o p' from HB.out)
      refine copy_bytes rfl _ _ (by rfl) b (8 + k) (64 - k) (64 - k) (by rfl) _ p' (by rfl) hrd _ _ (show (wr.drewN nq).heap[b]? = _ from HH.out) n HN.out.symm (by simp [hr, St.list]; omega) ?_
      intro w2 HG2 hU2
      clear hrd
      have hU3 : Upd [b] w w2 := (hU.drewN nq).trans hU2
      have hB2 : Bytes w2 g o p' := Bytes.upd (w := wr.drewN nq) HB.out hU2 (by simpa [Value.ownBlock] using hb')
      have hrow : w2.heap[b]? = some (.cells (dig256Cells s (splice r k (p'.take n)) (BitVec.ofNat 64 L)) 58 (0, 0)) := by
        rw [HG2.out, splice_dig256 s r _ _ k hr (by simp; omega)]; rfl
      obtain ⟨r2, hr2⟩ : ∃ r2, splice r k (p'.take n) = r2 := ⟨_, rfl⟩
      have hrl2 : r2.length = 64 := by rw [← hr2, length_splice _ _ _ (by simp; omega)]; exact hr
      rw [hr2] at hrow
      have HR2 := Lib.hid hr2
      have HROW := Lib.hid hrow
      have HB2 := Lib.hid hB2
      clear hr2 hB2 HB HH HG2 hU hU2 hc72 hrow
      obtain ⟨x, hx⟩ : ∃ x, BitVec.ofNat 64 L = x := ⟨_, rfl⟩
      have h72 : w2.cell? ⟨b, 72, none⟩ = some (U64 x) := by
        rw [cell_of_row _ _ _ _ _ _ HROW.out, ← hx]
        have hl : (s.list.map U32 ++ r2.map U8).length = 72 := by simp [St.list, hrl2]
        simp only [dig256Cells, List.getElem?_toArray]
        rw [List.getElem?_append_right (by omega), hl]
        rfl
      have f72 : w2.frozen? ⟨b, 72, none⟩ = false := frozen_of_row _ _ _ _ _ HROW.out
      have HX := Lib.hid hx
      clear hx
      have hxn : x.toNat = L := by rw [← HX.out, BitVec.toNat_ofNat, Nat.mod_eq_of_lt hLb]
      have HXN := Lib.hid hxn
      have HCUT : Hid (∀ A : Option Addr, (A = if c = n then some ⟨g, o, none⟩ else some ⟨g, o + n, none⟩) → ∀ w', Bytes w' g o p' → RdB w' (.slice A (p'.length - n) (c - n)) (p'.drop n)) := by
        intro A hA w' hb'
        refine RdB.cut n hb' hc1 hc2 hnb.2.1 A _ _ (fun h => ?_) rfl rfl
        rw [hA, if_neg (by omega)]
      clear hxn
      have hgb' : g ≠ b := by simpa [Value.ownBlock] using hb'
      have hOB : (Value.slice (if c = n then some ⟨g, o, none⟩ else some ⟨g, o + n, none⟩) (p'.length - n) (c - n)).ownBlock ≠ some b := by split <;> simpa [Value.ownBlock] using hgb'
      have hy : x + BitVec.ofNat 64 n = BitVec.ofNat 64 (m' ++ p'.take n).length := by
        rw [List.length_append, HL.out, List.length_take, Nat.min_eq_left hnb.2.1, BitVec.ofNat_add, HX.out]
      have HY := Lib.hid hy
      have HOB := Lib.hid hOB
      clear hy hOB
      by_cases hfull : k + n = 64
      · have ht : (((x.toNat : Int) + (n : Int)) % 64 == 0) = true := by
          rw [beq_iff_eq, HXN.out]; have := HK.out; omega
        have HF := Lib.hid hfull
        clear hfull
        have hset := heap_setCell_same w2 b 72 _ 58 (U64 (x + BitVec.ofNat 64 n)) HROW.out
        rw [dig256_len s r2 _ _ hrl2] at hset
        have HSET := Lib.hid hset
        have hG3 := (HG.out.upd hU3 (by simpa using Ne.symm hgb)).upd ((Upd.refl [b] w2).setCell ⟨b, 72, none⟩ (U64 (x + BitVec.ofNat 64 n)) (fun _ => by simp)) (by simpa using Ne.symm hgb)
        have HG3 := Lib.hid hG3
        clear hset hG3
        go_upto_region 5 with (fail)
        obtain ⟨w3, hw3⟩ : ∃ w3, w2.setCell ⟨b, 72, none⟩ (U64 (x + BitVec.ofNat 64 n)) = w3 := ⟨_, rfl⟩
        have hU4 : Upd [b] w w3 := by rw [← hw3]; exact hU3.setCell _ _ (by simp)
        rw [hw3] at HSET HG3 ⊢
        have hB3 : Bytes w3 g o p' := by rw [← hw3]; exact HB2.out.upd ((Upd.refl [b] w2).setCell _ _ (by simp)) (by simpa [Value.ownBlock] using hb')
        have HB3 := Lib.hid hB3
        clear hw3 hB3 h72 f72
        have hR0 : ∀ w', Upd [] w3 w' → w'.rangeAt b 0 (s.list.map U32) := fun w' h => range_of_row (h.heap HSET.out (by simp)) 0 _ ⟨[], r2.map U8 ++ [U64 (x + BitVec.ofNat 64 n)], by simp, rfl⟩
        have hR8 : ∀ w', Upd [] w3 w' → w'.rangeAt b 8 (r2.map U8) := fun w' h => range_of_row (h.heap HSET.out (by simp)) 8 _ ⟨s.list.map U32, [U64 (x + BitVec.ofNat 64 n)], by simp, rfl⟩
        have hs8 : (Tryd.prog.info? 54).map (·.size) = some (s.list.map U32).length := size_s32
        have hs64 : (Tryd.prog.info? 55).map (·.size) = some (r2.map U8).length := by rw [List.length_map, hrl2]; exact size_b64
        have HR0 := Lib.hid hR0
        have HR8 := Lib.hid hR8
        have HS8 := Lib.hid hs8
        have HS64 := Lib.hid hs64
        clear hR0 hR8 hs8 hs64
        obtain ⟨A, hA⟩ : ∃ A : Option Addr, (if c = n then some ⟨g, o, none⟩ else some ⟨g, o + n, none⟩) = A := ⟨_, rfl⟩
        rw [hA] at HOB ⊢
        have HA := Lib.hid hA
        clear hA
        refine wp_region_quiet_tail 10 (Upd [] w3) (by kernel_rfl) (by kernel_rfl) (Upd.refl _ _).drew ?_
        simp only [List.take_succ_cons, List.take_zero, List.drop_succ_cons, List.drop_zero]
        repeat (first
          | (refine wpQuiet_val rfl (quiet_load_mid 54 _ rfl b 0 rfl _ HR0.out Tryd.underlying54 rfl HS8.out) ?_)
          | (refine wpQuiet_val rfl (quiet_load_mid 55 _ rfl b 8 rfl _ HR8.out Tryd.underlying55 rfl HS64.out) ?_)
          | (refine wpQuiet_step (fun K hK => ?_)
             go_simp
             first
               | (refine ⟨_, fun _ _ => rfl, hK _ ?_⟩; clear hK K)
               | (refine ⟨_, fun w2 hw2 => (block256_any w2 s r2 hrl2 (HG3.out.upd hw2 (by simp))).mono (fun e w' h => ⟨h.1, hw2.trans h.2⟩), hK _ ?_⟩; clear hK K)
               | (refine hK _ ?_; clear hK K)))
        refine wpQuiet_nil ?_
        intro w4 hU5
        have hth : w4.there b 0 (s.list.map U32).length := there_of_row (hU5.heap HSET.out (by simp)) 0 _ (by simp [St.list])
        obtain ⟨s2, hs2⟩ : ∃ s2, block256 s r2 = s2 := ⟨_, rfl⟩
        rw [hs2]
        have HS2 := Lib.hid hs2
        clear hs2
        go_wp2_with (refine wpList_store_mid rfl 54 _ _ rfl b 0 _ rfl rfl hth size_s32 (by simp) ?_)
        go_simp
        have h4 := hU5.heap HSET.out (by simp)
        have hU6 := (hU4.trans0 hU5).setCells b 0 (s2.list.map U32) (fun _ => by simp)
        refine ⟨⟨m' ++ p'.take n, p'.drop n, by rw [List.append_assoc, List.take_append_drop]; exact HM.out, ⟨s2, r2, ⟨hrl2, ?_⟩, ?_⟩, HCUT.out _ HA.out.symm _ ?_, fun _ => HOB.out, by simp; omega, hU6⟩, show p'.length - n < p'.length by omega⟩
        · have := setCells_heap b (s2.list.map U32) 0 w4 _ (by simp [St.list]) h4
          rw [dig256_state, HY.out] at this
          exact this
        · rw [← HS2.out, ← HR2.out]; exact HHELD.out.full (p'.take n) k (by rw [HL.out]; exact HK.out) (by rw [List.length_take, Nat.min_eq_left hnb.2.1]; exact HF.out) (by omega)
        · exact (HB3.out.upd hU5 (by simp)).upd ((Upd.refl [b] w4).setCells b 0 _ (by simp)) (by simpa using hgb')
      · have ht : (((x.toNat : Int) + (n : Int)) % 64 == 0) = false := by
          rw [beq_eq_false_iff_ne, HXN.out]; have := HK.out; omega
        have hset := heap_setCell_same w2 b 72 _ 58 (U64 (x + BitVec.ofNat 64 n)) HROW.out
        rw [dig256_len s r2 _ _ hrl2] at hset
        have HSET := Lib.hid hset
        clear hset
        go_upto_if 36 with (fail)
        go_wp2
        refine ⟨⟨m' ++ p'.take n, p'.drop n, by rw [List.append_assoc, List.take_append_drop]; exact HM.out, ⟨s, r2, ⟨hrl2, ?_⟩, ?_⟩, HCUT.out _ rfl _ ?_, fun _ => HOB.out, by simp; omega, hU3.setCell _ _ (by simp)⟩, by simp [slen]; omega⟩
        · rw [← HY.out]; exact HSET.out
        · rw [← HR2.out]; exact HHELD.out.part (p'.take n) k (by rw [HL.out]; exact HK.out) (by simp; omega)
        · exact HB2.out.upd ((Upd.refl [b] w2).setCell _ _ (by simp)) (by simpa using hgb')
end Go.Proofs.YtaphbkkklapdaaaDoor
