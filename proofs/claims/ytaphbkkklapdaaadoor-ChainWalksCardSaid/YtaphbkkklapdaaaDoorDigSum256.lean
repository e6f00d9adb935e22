/-
  Sum of a sha256.Digest, and Sum of a message.
-/
import Derived.Test.YtaphbkkklapdaaaDoorDigWrite256
import Derived.Test.YtaphbkkklapdaaaDoorStore32
import Derived.Test.YtaphbkkklapdaaaDoorPad256
import Derived.Deep.RegionHeld3
import Derived.Deep.DrawnRows
import Derived.IntWalk
namespace Go.Proofs.YtaphbkkklapdaaaDoor
open Go Go.RowKit Go.Proofs
def hash32 (s : St 32) : List (BitVec 8) := s.list.flatMap tell32
def padded256 (m : List (BitVec 8)) : List (BitVec 8) := m ++ pad256 (BitVec.ofNat 64 m.length)
/-- the hash of a message -/
def sha256 (m : List (BitVec 8)) : List (BitVec 8) := hash32 (led block256 64 first256 (padded256 m) ((padded256 m).length / 64))
/-- what stands in the answer behind k words -/
def told32 (s : St 32) (k : Nat) : List (BitVec 8) := (s.list.take k).flatMap tell32 ++ List.replicate (32 - 4 * k) 0
theorem flat32_length (l : List (BitVec 32)) : (l.flatMap tell32).length = 4 * l.length := by
  induction l with
  | nil => rfl
  | cons x l ih => simp only [List.flatMap_cons, List.length_append, ih, tell32_length, List.length_cons]; omega
attribute [local go_sem ↓] Go.wp_at_zero Go.wp_at_succ
theorem hash32_length (s : St 32) : (hash32 s).length = 32 := flat32_length _
theorem sha256_length (m : List (BitVec 8)) : (sha256 m).length = 32 := hash32_length _
theorem told32_length (s : St 32) (k : Nat) (h : k ≤ 8) : (told32 s k).length = 32 := by
  have : s.list.length = 8 := rfl
  simp only [told32, List.length_append, flat32_length, List.length_take, List.length_replicate]; omega
theorem told32_step (s : St 32) (k : Nat) (h : k < 8) : splice (told32 s k) (4 * k) (tell32 (s.list.getD k 0)) = told32 s (k + 1) := by
  have h8 : s.list.length = 8 := rfl
  have hl : ((s.list.take k).flatMap tell32).length = 4 * k := by rw [flat32_length, List.length_take]; omega
  unfold splice told32
  rw [List.take_left' hl, tell32_length, List.drop_append, hl, List.drop_eq_nil_of_le (by omega), List.nil_append, List.drop_replicate,
    List.take_succ_eq_append_getElem (by omega), List.flatMap_append, List.append_assoc]
  congr 1
  have : s.list.getD k 0 = s.list[k]'(by omega) := by rw [List.getD_eq_getElem?_getD, List.getElem?_eq_getElem (by omega)]; rfl
  rw [this]
  simp
  omega
theorem told32_all (s : St 32) : told32 s 8 = hash32 s := by simp [told32, hash32, St.list]
theorem size_h32 : (Tryd.prog.info? 23).map (·.size) = some 32 := by kernel_rfl
@[go_sem] theorem zero_h32 (w : World) : (zeroValue 23).run Tryd.prog w = .ok (.agg (zrow8 32)) w := by kernel_rfl
set_option maxRecDepth 100000 in
set_option maxHeartbeats 3200000 in
theorem digsum256 (w : World) (b : Nat) (m : List (BitVec 8)) (hd : DigOf256 w b m) (hm : m.length ≤ 4611686018427387904) (hg : Gl256 w) :
    Calls Tryd.prog 24 #[.pointer (some ⟨b, 0, none⟩)] w fun e w' => e = .returned (.agg ((sha256 m).map U8).toArray) ∧ Upd [] w w' := by
  have hd0 := hd
  obtain ⟨s, r, ⟨hr, hh⟩, hheld⟩ := hd
  obtain ⟨x, hx⟩ : ∃ x, BitVec.ofNat 64 m.length = x := ⟨_, rfl⟩
  rw [hx] at hh
  have hb : b < w.heap.size := lt_of_heap hh
  have hc72 : w.cell? ⟨b, 72, none⟩ = some (U64 x) := by
    rw [cell_of_row _ _ _ _ _ _ hh]
    have hl : (s.list.map U32 ++ r.map U8).length = 72 := by simp [St.list, hr]
    simp only [dig256Cells, List.getElem?_toArray]
    rw [List.getElem?_append_right (by omega), hl]; rfl
  have hs : (Tryd.prog.info? 58).map (·.size) = some (dig256Cells s r x).size := by rw [dig256_size s r x hr]; exact size_dig256
  have ho := dig256_one s r x
  have hz : ∀ z : Array Value, z.size = 73 → z.size = (dig256Cells s r x).size := fun z e => by rw [e, dig256_size s r x hr]
  obtain ⟨cs, hcs⟩ : ∃ cs, dig256Cells s r x = cs := ⟨_, rfl⟩
  rw [hcs] at hh hs ho hz
  have HC := Lib.hid hcs
  have HX := Lib.hid hx
  have HH := Lib.hid hh
  have HELD := Lib.hid hheld
  have hg_lt : 1 < w.heap.size := World.block_lt_of_cell? w ⟨1, 0, none⟩ (hg 0 (by omega))
  have HG := Lib.hid hg
  clear hcs hx hheld hg
  go_enter Tryd.func24, Tryd.ntmps24
  go_upto_region 2 with (first | (refine wpList_load_row rfl 58 _ rfl b rfl 58 _ (0, 0) _ (hget_old HH.out) Tryd.underlying58 rfl hs ?_) | (refine wpList_store_row rfl 58 _ _ rfl (w.heap.size + 1) cs rfl rfl 58 _ (hget_new (by simp)) hs (hz _ (by kernel_rfl)) ho ?_))
  generalize hw1 : World.setRow (World.alloc (World.alloc w _) _) _ _ = w1
  have hU1 : Upd [] w w1 := by rw [← hw1]; exact (((Upd.refl _ w).alloc _).alloc _).setRow _ _ (by simp)
  have h1 : w1.heap[w.heap.size + 1]? = some (.cells cs 58 (0, 0)) := by rw [← hw1]; exact setRow_heap _ _ _ _ 58 (0, 0) (hget_new (by simp))
  have h0 : w1.heap[w.heap.size]? = some (.cells (zrow8 32) 23 (0, 0)) := by
    rw [← hw1, setRow_other _ _ _ _ (by omega)]; exact hget_old (hget_new rfl)
  obtain ⟨B, hB⟩ : ∃ B, w.heap.size = B := ⟨_, rfl⟩
  have hsz1 : w1.heap.size = B + 2 := by rw [← hw1]; simp [hB]
  have hc72' := hU1.cell hc72 (by simp)
  have hD1 : DigOf256 w1 (B + 1) m := ⟨s, r, ⟨hr, by rw [HX.out, ← hB, HC.out]; exact h1⟩, HELD.out⟩
  rw [hB] at h0 h1 ⊢
  have hb' : b < B := by omega
  have HD1 := Lib.hid hD1
  have HG1 := Lib.hid (HG.out.upd hU1 (by simp))
  have HB := Lib.hid hB
  have HSZ1 := Lib.hid hsz1
  clear hw1 hB hb hc72 hs ho hz hh h1 hD1 hsz1
  go_upto_region 3 with (first | (go_at_call 27; refine (padof256 _ x).mono ?_; rintro e w2 ⟨v, rfl, hO, hU2⟩) | (go_at_call 23; refine (write256 _ _ v m (pad256 x) (HD1.out.upd hU2 (by simp)) hO.rd (by intro _ h; have := (hO.lt _ h).1; have := HSZ1.out; omega) (by rw [pad256_length]; have := noughts256_lt x; omega) (by rw [pad256_length]; have := noughts256_lt x; omega) (HG1.out.upd hU2 (by simp)) (by have := HB.out; have := hg_lt; omega)).mono ?_; rintro e w3 ⟨⟨y, rfl⟩, hD3, hU3⟩))
  have hU4 : Upd [] w w3 := (hU1.trans hU2).trans' hU3 (fun i hi hlt => by simp at hi; have := HB.out; omega)
  have h03 := (h0 |> (fun h => hU2.heap h (by simp)) |> (fun h => hU3.heap h (by simp)))
  obtain ⟨s2, r2, ⟨hr2, hh2⟩, hheld2⟩ := hD3
  obtain ⟨C, hC⟩ : ∃ C, w3.heap.size = C := ⟨_, rfl⟩
  have hBC : B + 2 ≤ C := by have := hU2.size; have := hU3.size; have := HSZ1.out; omega
  have hra : (w3.alloc (.cells (zrow8 32) 23)).rangeAt (B + 1) 0 (s2.list.map U32) := range_of_row (hget_old hh2) 0 _ ⟨[], r2.map U8 ++ [U64 (BitVec.ofNat 64 (m ++ pad256 x).length)], by simp, rfl⟩
  have hs2 : s2 = led block256 64 first256 (padded256 m) ((padded256 m).length / 64) := by
    rw [padded256, HX.out]; exact hheld2.state
  have HS2 := Lib.hid hs2
  have HRA := Lib.hid hra
  have HC3 := Lib.hid hC
  clear hs2 hra hheld2 hd0 HD1 hO hU1 hU2 hU3 h0 HH HELD HG HC hg_lt HG1 hC
  go_wp2_with (first | (refine wpList_load_mid rfl 54 _ rfl (B + 1) 0 rfl _ _ HRA.out Tryd.underlying54 rfl size_s32 ?_))
  rw [HC3.out]
  generalize hw4 : World.alloc w3 _ = w4
  have hU5 : Upd [] w w4 := by rw [← hw4]; exact hU4.alloc _
  have e0 : ((told32 s2 0).map U8).toArray = zrow8 32 := rfl
  have h4 : w4.heap[C]? = some (.cells ((told32 s2 0).map U8).toArray 23 (0, 0)) := by rw [← hw4, e0]; exact hget_new HC3.out.symm
  have h4B : w4.heap[B]? = some (.cells (zrow8 32) 23 (0, 0)) := by rw [← hw4]; exact hget_old h03
  clear hw4 h03 hh2 HRA HC3 hU4 e0 hc72'
  go_loopw [18] (fun i wr => ∃ k : Nat, k ≤ 8 ∧ i = .int .i64 k ∧ Upd [] w wr ∧ wr.heap[C]? = some (.cells ((told32 s2 k).map U8).toArray 23 (0, 0)) ∧ wr.heap[B]? = some (.cells (zrow8 32) 23 (0, 0))) (fun i _ => 8 - (intOf i).toNat)
  case atStart => exact ⟨0, by omega, rfl, hU5, h4, h4B⟩
  case round =>
    obtain ⟨k, hk, rfl, hU, hC, hB0⟩ := hrel
    by_cases hlt : k < 8
    · obtain ⟨q, hq⟩ : ∃ q, s2.list.getD k 0 = q := ⟨_, rfl⟩
      have hidx := run_index_row (P := Tryd.prog) (T := 54) k Tryd.underlying54 Tryd.underlying53 rfl size_u32 hlt (st_get U32 s2 k hlt)
      rw [hq] at hidx
      have HQ := Lib.hid hq
      have HCC := Lib.hid hC
      have HB0 := Lib.hid hB0
      clear hq hC hB0
      go_wp2
      have hki : (k : Int) < 8 := by omega
      have e1 : IntKind.i64.wrap (4 * (k : Int)) = 4 * (k : Int) := IntWalk.i64_in _ (by omega)
      have e2 : (0 : Int) ≤ 4 * (k : Int) := by omega
      have e3 : (4 * (k : Int)).toNat = 4 * k := by omega
      have e4 : (4 * (k : Int)) ≤ 32 := by omega
      go_region_held3 (fun _ => True) (trivial) (first
        | (go_at_call 28; refine (storeBE32 _ q).mono ?_; rintro e w5 ⟨vq, rfl, hO, hU6⟩)
        | ((refine step_copy_bytes rfl _ _ (by rfl) C (4 * k) (32 - 4 * k) (32 - 4 * k) (by rfl) _ (tell32 q) (by rfl) hO.rd _ _ (hU6.heap (show wr.drew.heap[C]? = _ from HCC.out) (by simp)) 4 (by rw [tell32_length]; omega) (by rw [List.length_map, told32_length _ _ hk]; omega) ?_; intro w6 hH hU7)))
      have hS : w6.heap[C]? = some (.cells ((told32 s2 (k + 1)).map U8).toArray 23 (0, 0)) := by
        rw [hH.out, ← told32_step s2 k hlt, HQ.out, List.take_of_length_le (by rw [tell32_length]; omega)]
        simp [splice]
      have hS0 : w6.heap[B]? = some (.cells (zrow8 32) 23 (0, 0)) := hU7.heap (hU6.heap (show wr.drew.heap[B]? = _ from HB0.out) (by simp)) (by simp; omega)
      have hU8 : Upd [] w w6 := (hU.drew.trans hU6).trans' hU7 (fun i hi hlt' => by simp at hi; have := HB.out; omega)
      have HS := Lib.hid hS
      have HS0 := Lib.hid hS0
      clear hS hS0 hH hU7 hU6 hO hidx e1 e2 e3 e4
      go_wp2
      go_roundw
      case rel => exact ⟨k + 1, by omega, by go_num, hU8, HS.out, HS0.out⟩
      case measure => simp [intOf]; omega
    · obtain rfl : k = 8 := by omega
      rw [told32_all] at hC
      have hs : (Tryd.prog.info? 23).map (·.size) = some (((hash32 s2).map U8).toArray).size := by simp only [List.size_toArray, List.length_map, hash32_length]; exact size_h32
      have ho : (zrow8 32).size = (((hash32 s2).map U8).toArray).size := by simp only [List.size_toArray, List.length_map, hash32_length, zrow8_size]
      have ha : (((hash32 s2).map U8).toArray).all (·.oneCell') = true := by simp
      have HFIN : Hid (hash32 s2 = sha256 m) := by rw [HS2.out]; rfl
      obtain ⟨cells, hcells⟩ : ∃ c, ((hash32 s2).map U8).toArray = c := ⟨_, rfl⟩
      rw [hcells] at hC hs ho ha
      have HCELLS := Lib.hid hcells
      clear hcells
      go_wp2_with (first | (refine wpList_load_row rfl 23 _ rfl C rfl 23 _ (0, 0) _ hC Tryd.underlying23 rfl hs ?_) | (refine wpList_store_row rfl 23 _ _ rfl B _ rfl rfl 23 _ hB0 hs ho ha ?_))
      refine bodyPost_ret (v := .agg cells) (results_cell_row rfl _ _ B 23 _ (0, 0) _ rfl (setRow_heap wr B _ _ 23 (0, 0) hB0) Tryd.underlying23 rfl hs) rfl ⟨ret_eq ?_, hU.setRow _ _ (by have := HB.out; omega)⟩
      rw [← HCELLS.out, HFIN.out]
theorem GlFirst256.upd {S : List Nat} {w w' : World} (h : GlFirst256 w) (u : Upd S w w') (hn : 0 ∉ S) : GlFirst256 w' := by
  obtain ⟨T, fr, h⟩ := h
  exact ⟨T, fr, u.heap h hn⟩
theorem GlFirst256.lt {w : World} (h : GlFirst256 w) : 0 < w.heap.size := by obtain ⟨T, fr, h⟩ := h; exact lt_of_heap h
theorem Gl256.lt {w : World} (h : Gl256 w) : 1 < w.heap.size := World.block_lt_of_cell? w ⟨1, 0, none⟩ (h 0 (by omega))
theorem DigOf256.new {w : World} {b : Nat} (h : Dig256 w b first256 (List.replicate 64 0) 0) : DigOf256 w b [] := ⟨_, _, h, Held.start _ _ _ _ (by simp)⟩
set_option maxRecDepth 100000 in
set_option maxHeartbeats 3200000 in
theorem sum256 (w : World) (v : Value) (m : List (BitVec 8)) (hv : RdB w v m) (hm : m.length ≤ 281474976710656) (hg : Gl256 w) (hf : GlFirst256 w) :
    Calls Tryd.prog 12 #[v] w fun e w' => e = .returned (.agg ((sha256 m).map U8).toArray) ∧ Upd [] w w' := by
  obtain ⟨H, hH⟩ : ∃ H, sha256 m = H := ⟨_, rfl⟩
  have hHl : H.length = 32 := by rw [← hH]; exact sha256_length m
  have hds := fun w b h1 h2 => digsum256 w b m h1 (by omega) h2
  rw [hH] at hds ⊢
  have HDS := Lib.hid hds
  have hs : (Tryd.prog.info? 23).map (·.size) = some ((H.map U8).toArray).size := by simp only [List.size_toArray, List.length_map, hHl]; exact size_h32
  have ho : (zrow8 32).size = ((H.map U8).toArray).size := by simp only [List.size_toArray, List.length_map, hHl, zrow8_size]
  have ha : ((H.map U8).toArray).all (·.oneCell') = true := by simp
  have hgl := hg.lt
  have hfl := hf.lt
  have HG := Lib.hid hg
  have HF := Lib.hid hf
  have HV := Lib.hid hv
  obtain ⟨B, hB⟩ : ∃ B, w.heap.size = B := ⟨_, rfl⟩
  rw [hB] at hgl hfl
  clear hH hds hg hf hv
  go_enter Tryd.func12, Tryd.ntmps12
  go_upto_region 1 with (fail)
  generalize hw1 : World.alloc w _ = w1
  have hU1 : Upd [] w w1 := by rw [← hw1]; exact (Upd.refl _ w).alloc _
  have h1 : w1.heap[B]? = some (.cells (zrow8 32) 23 (0, 0)) := by rw [← hw1]; exact hget_new hB.symm
  have hs1 : w1.heap.size = B + 1 := by rw [← hw1]; simp [hB]
  have HB := Lib.hid hB
  have HS1 := Lib.hid hs1
  have HB1 := Lib.hid h1
  clear hB hs1 h1 hw1
  go_wp2_with (first
    | (go_at_call 22; refine (new256 _ (HF.out.upd hU1 (by simp))).mono ?_; rintro e w2 ⟨rfl, hD2, hU2⟩; rw [HS1.out] at hD2 ⊢)
    | (go_at_call 23; refine (write256 _ _ v [] m (DigOf256.new hD2) ((HV.out.upd0 hU1).upd0 hU2) (by intro h0 h; have := HV.out.lt h0 _ h; have := HB.out; omega) (by simp; omega) (by omega) ((HG.out.upd hU1 (by simp)).upd hU2 (by simp)) (by omega)).mono ?_; rintro e w3 ⟨⟨y, rfl⟩, hD3, hU3⟩)
    | (go_at_call 24; refine (HDS.out _ _ hD3 (((HG.out.upd hU1 (by simp)).upd hU2 (by simp)).upd hU3 (by simp; omega))).mono ?_; rintro e w4 ⟨rfl, hU4⟩)
    | (refine wpList_store_row rfl 23 _ _ rfl B _ rfl rfl 23 _ (hU4.heap (hU3.heap (hU2.heap HB1.out (by simp)) (by simp)) (by simp)) hs ho ha ?_))
  refine bodyPost_ret (v := .agg (H.map U8).toArray) (results_cell_row rfl _ _ B 23 _ (0, 0) _ rfl (setRow_heap w4 B _ _ 23 (0, 0) (hU4.heap (hU3.heap (hU2.heap HB1.out (by simp)) (by simp)) (by simp))) Tryd.underlying23 rfl hs) rfl ⟨rfl, ?_⟩
  have hW : Upd [] w w4 := ((hU1.trans hU2).trans' hU3 (fun i hi hlt => by simp at hi; have := HB.out; omega)).trans hU4
  exact hW.setRow _ _ (by have := HB.out; omega)
end Go.Proofs.YtaphbkkklapdaaaDoor
