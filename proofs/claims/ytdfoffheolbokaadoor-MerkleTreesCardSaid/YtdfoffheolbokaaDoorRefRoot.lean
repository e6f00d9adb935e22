/-
  The document's Node and Root.
-/
import Derived.Test.YtdfoffheolbokaaDoorMRoot
import Derived.Test.YtdfoffheolbokaaDoorRefSum256
namespace Go.Proofs.YtdfoffheolbokaaDoor
open Go Go.RowKit Go.Proofs
theorem own_newR {w : World} {b B : Nat} {l : List (BitVec 8)} (hb : w.heap[b]? = some (.cells (l.map U8).toArray 5 (0, 0))) (hB : B ≤ b) (hn : l.length ≤ maxLen) : OwnB w B (.slice (some ⟨b, 0, none⟩) l.length l.length) l :=
  ⟨by simp, .inr ⟨b, l.length, _, rfl, hB, hb, Nat.le_refl _, hn, by simp, by simp [List.take_of_length_le]⟩⟩
theorem bs1ownR {ops : Array Oper} {rest : List Oper} {a : Act} {w : World} {Q : Exit → Act → World → Prop} {dst : Option Tmp} {type : TypeId} {pos : String} {after : Array Edge} {x1 : Operand} {y : BitVec 8} (h1 : a.eval x1 = U8 y)
    (h : ∀ g w', w.heap.size = g → OwnB w' g (.slice (some ⟨g, 0, none⟩) 1 1) [y] → Upd [] w w' → wpList Tryd.prog ops Q rest (a.put dst (.slice (some ⟨g, 0, none⟩) 1 1)) w') :
    wpList Tryd.prog ops Q (⟨dst, .buildSlice 37 1 #[(0, x1)], type, pos, after, none⟩ :: rest) a w := by
  obtain ⟨i, hi, hz, hs, _⟩ := info_byte
  exact arm_bs1 Tryd.underlying37 hi hs hz rfl h1 rfl (fun g w' hg hk hU => h g w' hg (own_newR (l := [y]) hk (Nat.le_refl _) (by simp [maxLen])) hU)
set_option maxRecDepth 100000 in
set_option maxHeartbeats 3200000 in
theorem refnode_ (w : World) (x y : List (BitVec 8)) (hx : x.length = 32) (hy : y.length = 32) :
    Calls Tryd.prog 40 #[.agg (x.map U8).toArray, .agg (y.map U8).toArray] w fun e w' => e = .returned (.agg ((nodeH x y).map U8).toArray) ∧ Upd [] w w' := by
  obtain ⟨H, hH⟩ : ∃ H, nodeH x y = H := ⟨_, rfl⟩
  have hHl : H.length = 32 := by rw [← hH]; exact nodeH_length x y
  have hds : ∀ W v, RdB W v (([1] ++ x) ++ y) → Calls Tryd.prog 46 #[v] W fun e w' => e = .returned (.agg (H.map U8).toArray) ∧ Upd [] W w' := fun W v h1 => by
    have := refsum256 W v _ h1 (by simp; omega)
    rwa [show sha256 (([1] ++ x) ++ y) = H by rw [← hH]; rfl] at this
  obtain ⟨cx, hcx⟩ : ∃ c, (x.map U8).toArray = c := ⟨_, rfl⟩
  obtain ⟨cy, hcy⟩ : ∃ c, (y.map U8).toArray = c := ⟨_, rfl⟩
  obtain ⟨cH, hcH⟩ : ∃ c, (H.map U8).toArray = c := ⟨_, rfl⟩
  have hs := szrow hHl
  have ho := sameZ hHl
  have ha := oneAll H
  have HRX : Hid (∀ (W : World) b T fr, W.heap[b]? = some (.cells cx T fr) → RdB W (.slice (some ⟨b, 0, none⟩) 32 32) x) := fun W b T fr h => by rw [← hcx] at h; exact rd_row h hx
  have HRY : Hid (∀ (W : World) b T fr, W.heap[b]? = some (.cells cy T fr) → RdB W (.slice (some ⟨b, 0, none⟩) 32 32) y) := fun W b T fr h => by rw [← hcy] at h; exact rd_row h hy
  rw [hcH] at hds hs ho ha
  rw [hcx, hcy, hH, hcH]
  have HDS := Lib.hid hds
  have HXL := Lib.hid hx
  have HYL := Lib.hid hy
  clear hds hH hHl hcx hcy hcH hx hy
  go_enter Tryd.func40, Tryd.ntmps40
  go_wp2_with (with_reducible refine arm_box (by with_unfolding_all exact rfl) ?_)
  intro b2 w2 hb2 k2 hU2 hz2
  change w2.heap[b2]? = some (.cells cx 27 (0, 0)) at k2
  go_wp2_with (with_reducible refine arm_box (by with_unfolding_all exact rfl) ?_)
  intro b3 w3 hb3 k3 hU3 hz3
  change w3.heap[b3]? = some (.cells cy 27 (0, 0)) at k3
  go_wp2_with (with_reducible refine arm_alloc (zero_h32 _) ?_)
  intro b4 w4 hb4 k4 hU4 hz4
  change w4.heap[b4]? = some (.cells (zrow8 32) 27 (0, 0)) at k4
  have k24 := hU4.heap (hU3.heap k2 (by simp)) (by simp)
  have k34 := hU4.heap k3 (by simp)
  have hV4 := (hU2.trans hU3).trans hU4
  have hl4 : w.heap.size ≤ b4 := by have := (hU2.trans hU3).size; omega
  clear hb2 hb3 hb4 hz2 hz3 hz4 k2 k3 hU2 hU3 hU4
  go_wp2_with (with_reducible refine bs1ownR (y := 1) (by with_unfolding_all exact rfl) ?_)
  intro g5 w5 hg5 hO5 hU5
  have hg4 : w4.heap.size ≤ g5 := by omega
  have hB5 : g5 ≤ w5.heap.size := by have := hU5.size; omega
  have hr5 := HRX.out _ _ _ _ (hU5.heap k24 (by simp))
  go_wp2_with (refine append_rd rfl _ _ rfl g5 (.slice (some ⟨g5, 0, none⟩) 1 1) [1] rfl hO5 (.slice (some ⟨b2, 0, none⟩) 32 32) x rfl hr5 (by have := HXL.out; simp; omega) hB5 ?_)
  intro v6 w6 hO6 hO62 hU6 hG6
  have hT6 : Upd [] w4 w6 := hU5.row hU6 (fun g hg => by have := (hO5.lt g hg).1; omega)
  have hB6 : g5 ≤ w6.heap.size := by have := hU6.size; omega
  have hr6 := HRY.out _ _ _ _ (hT6.heap k34 (by simp))
  clear hO62 hG6 hr5 hO5 hU5 hU6 hg5
  go_wp2_with (refine append_rd rfl _ _ rfl g5 v6 _ rfl hO6 (.slice (some ⟨b3, 0, none⟩) 32 32) y rfl hr6 (by have := HXL.out; have := HYL.out; simp; omega) hB6 ?_)
  intro v7 w7 hO7 hO72 hU7 hG7
  have hT7 : Upd [] w4 w7 := hT6.row hU7 (fun g hg => by have := (hO6.lt g hg).1; omega)
  have hr7 := hO7.rd
  clear hO72 hG7 hr6 hO6 hU7 hO7 hT6
  go_wp2_with (fail)
  with_reducible refine (HDS.out _ _ hr7).mono ?_
  rintro e w8 ⟨rfl, hU8⟩
  have k48 := hU8.heap (hT7.heap k4 (by simp)) (by simp)
  have hV8 := (hV4.trans hT7).trans hU8
  clear hr7 hT7 hU8 k4 k24 k34 hV4
  go_wp2_with (with_reducible refine arm_store (by with_unfolding_all exact rfl) (by with_unfolding_all exact rfl) k48 hs ho ha ?_)
  intro w11 k11 hX11 hz11
  go_wp2_with (fail)
  refine bodyPost_ret (v := .agg cH) (results_cell_row rfl _ _ b4 27 _ (0, 0) _ rfl k11 Tryd.underlying27 rfl hs) rfl ⟨rfl, ?_⟩
  exact hV8.trans' hX11 (fun i hm hi => by simp at hm; omega)
set_option maxRecDepth 100000 in
set_option maxHeartbeats 3200000 in
theorem refroot_none (w : World) (A : Option Addr) (c : Nat) :
    Calls Tryd.prog 31 #[.slice A 0 c] w fun e w' => e = .returned (.agg ((rootOf []).map U8).toArray) ∧ Upd [] w w' := by
  obtain ⟨H, hH⟩ : ∃ H, rootOf [] = H := ⟨_, rfl⟩
  have hHl : H.length = 32 := by rw [← hH, rootOf_nil]; exact sha256_length []
  have hs1 : ∀ W, Upd [] w W → Calls Tryd.prog 46 #[.slice none 0 0] W fun e w' => e = .returned (.agg (H.map U8).toArray) ∧ Upd [] W w' := fun W hW => by
    have := refsum256 W _ [] (RdB.nil W) (by simp)
    rwa [show sha256 [] = H by rw [← hH, rootOf_nil]] at this
  obtain ⟨cH, hcH⟩ : ∃ c, (H.map U8).toArray = c := ⟨_, rfl⟩
  have hs := szrow hHl
  have ho := sameZ hHl
  have ha := oneAll H
  rw [hcH] at hs1 hs ho ha
  rw [hH, hcH]
  have HS := Lib.hid hs1
  clear hH hHl hcH hs1
  go_enter Tryd.func31, Tryd.ntmps31
  go_wp2_with (with_reducible refine arm_alloc (zero_h32 _) ?_)
  intro b4 w4 hb4 k4 hV4 hz4
  change w4.heap[b4]? = some (.cells (zrow8 32) 27 (0, 0)) at k4
  have hl4 : w.heap.size ≤ b4 := by omega
  clear hb4 hz4
  go_wp2_with (fail)
  with_reducible refine (HS.out _ hV4).mono ?_
  rintro e w5 ⟨rfl, hU5⟩
  have k5 := hU5.heap k4 (by simp)
  have hV5 := hV4.trans hU5
  clear k4 hV4 hU5
  go_wp2_with (with_reducible refine arm_store (by with_unfolding_all exact rfl) (by with_unfolding_all exact rfl) k5 hs ho ha ?_)
  intro w11 k11 hX11 hz11
  go_wp2_with (fail)
  refine bodyPost_ret (v := .agg cH) (results_cell_row rfl _ _ b4 27 _ (0, 0) _ rfl k11 Tryd.underlying27 rfl hs) rfl ⟨rfl, ?_⟩
  exact hV5.trans' hX11 (fun i hm hi => by simp at hm; omega)
set_option maxRecDepth 100000 in
set_option maxHeartbeats 3200000 in
theorem refroot_one (w : World) (v : Value) (x : H8) (hv : RdH w v [x]) :
    Calls Tryd.prog 31 #[v] w fun e w' => e = .returned (.agg (x.map U8).toArray) ∧ Upd [] w w' := by
  have hxl : x.length = 32 := hv.1 x (by simp)
  obtain ⟨g, p, c, rfl, hc1, hc2, _⟩ := hv.at (by simp)
  have he := hv.elem 0 (by simp)
  simp only [Nat.zero_mul, Nat.add_zero, List.getElem_cons_zero] at he
  obtain ⟨cs, hcs⟩ : ∃ cs, x.map U8 = cs := ⟨_, rfl⟩
  have hs := szrow hxl
  have ho := sameZ hxl
  have ha := oneAll x
  have hsl := szlist hxl
  rw [hcs] at he hs ho ha hsl ⊢
  clear hv hcs hxl
  go_enter Tryd.func31, Tryd.ntmps31
  go_wp2_with (with_reducible refine arm_alloc (zero_h32 _) ?_)
  intro b4 w4 hb4 k4 hV4 hz4
  change w4.heap[b4]? = some (.cells (zrow8 32) 27 (0, 0)) at k4
  have hl4 : w.heap.size ≤ b4 := by omega
  have he4 : w4.rangeAt g p cs := fun j v hj => hV4.cell (he j v hj) (by simp)
  clear hb4 hz4 he
  go_wp2_with (first
    | (with_reducible refine arm_load_mid (by with_unfolding_all exact rfl) he4 Tryd.underlying27 rfl hsl ?_)
    | (with_reducible refine arm_store (by with_unfolding_all exact rfl) (by with_unfolding_all exact rfl) k4 hs ho ha ?_))
  intro w11 k11 hX11 hz11
  go_wp2_with (fail)
  refine bodyPost_ret (v := .agg cs.toArray) (results_cell_row rfl _ _ b4 27 _ (0, 0) _ rfl k11 Tryd.underlying27 rfl hs) rfl ⟨rfl, ?_⟩
  exact hV4.trans' hX11 (fun i hm hi => by simp at hm; omega)
set_option maxRecDepth 100000 in
set_option maxHeartbeats 6400000 in
theorem refrooted : ∀ (n : Nat) (ls : List H8) (w : World) (v : Value), ls.length = n → n ≤ 65536 → RdH w v ls →
    Calls Tryd.prog 31 #[v] w fun e w' => e = .returned (.agg ((rootOf ls).map U8).toArray) ∧ Upd [] w w' := by
  intro n
  induction n using Nat.strongRecOn with
  | ind n ih =>
    intro ls w v hl hn hv
    match ls, hl with
    | [], _ =>
      obtain ⟨A, c, rfl, _, _⟩ := hv.isSlice
      exact refroot_none w A c
    | [x], _ =>
      rw [rootOf_one]
      exact refroot_one w v x hv
    | x :: y :: r, hl =>
      obtain ⟨ls, hls⟩ : ∃ ls, x :: y :: r = ls := ⟨_, rfl⟩
      have h1 : 1 < n := by rw [← hl]; simp
      rw [hls] at hl hv ⊢
      clear hls
      have hroot := rootOf_more ls (by omega)
      rw [hl] at hroot
      have hk1 := halfN_lt h1
      have hk0 := halfN_pos n
      have HSP : Hid (∀ W, Calls Tryd.prog 47 #[.int .i64 n] W fun e w' => e = .returned (.int .i64 (halfN n)) ∧ W = w') := fun W => refsplit_ W n h1 (by omega)
      obtain ⟨k, hk⟩ : ∃ k, halfN n = k := ⟨_, rfl⟩
      rw [hk] at hk1 hk0 hroot HSP
      obtain ⟨A, c, e, hc1, hc2⟩ := hv.isSlice
      rw [hl] at e hc1
      rw [e] at hv ⊢
      obtain ⟨BL, hL, hvL⟩ := hv.cut2 0 k none (some (.int .i64 k)) (.inl ⟨rfl, rfl⟩) (.inr rfl) (by omega) (by omega)
      obtain ⟨BR, hR, hvR⟩ := hv.cut2 k n (some (.int .i64 k)) none (.inr rfl) (.inl ⟨rfl, rfl⟩) (by omega) (Nat.le_refl _)
      rw [List.drop_zero] at hvL
      rw [List.take_of_length_le (by omega)] at hvR
      simp only [Nat.sub_zero] at hL hvL
      obtain ⟨m, hm⟩ : ∃ m, n - k = m := ⟨_, rfl⟩
      obtain ⟨q, hq⟩ : ∃ q, c - k = q := ⟨_, rfl⟩
      rw [hm, hq] at hvR hR
      have HRL : Hid (∀ W, Upd [] w W → Calls Tryd.prog 31 #[.slice BL k c] W fun e w' => e = .returned (.agg ((rootOf (ls.take k)).map U8).toArray) ∧ Upd [] W w') := fun W hW =>
        ih k hk1 (ls.take k) W _ (by simp; omega) (by omega) (hvL.upd0 hW)
      have HRR : Hid (∀ W, Upd [] w W → Calls Tryd.prog 31 #[.slice BR m q] W fun e w' => e = .returned (.agg ((rootOf (ls.drop k)).map U8).toArray) ∧ Upd [] W w') := fun W hW =>
        ih m (by omega) (ls.drop k) W _ (by simp; omega) (by omega) (hvR.upd0 hW)
      have hlL : (rootOf (ls.take k)).length = 32 := rootOf_length _ (fun x hx => hv.1 x (List.mem_of_mem_take hx))
      have hlR : (rootOf (ls.drop k)).length = 32 := rootOf_length _ (fun x hx => hv.1 x (List.mem_of_mem_drop hx))
      obtain ⟨H, hH⟩ : ∃ H, rootOf ls = H := ⟨_, rfl⟩
      have hHl : H.length = 32 := by rw [← hH]; exact rootOf_length _ hv.1
      have HN : Hid (∀ W, Upd [] w W → Calls Tryd.prog 40 #[.agg ((rootOf (ls.take k)).map U8).toArray, .agg ((rootOf (ls.drop k)).map U8).toArray] W fun e w' => e = .returned (.agg (H.map U8).toArray) ∧ Upd [] W w') := fun W hW => by
        rw [← hH, hroot]
        exact refnode_ W _ _ hlL hlR
      obtain ⟨cL, hcL⟩ : ∃ c, ((rootOf (ls.take k)).map U8).toArray = c := ⟨_, rfl⟩
      obtain ⟨cR, hcR⟩ : ∃ c, ((rootOf (ls.drop k)).map U8).toArray = c := ⟨_, rfl⟩
      obtain ⟨cH, hcH⟩ : ∃ c, (H.map U8).toArray = c := ⟨_, rfl⟩
      have hs := szrow hHl
      have ho := sameZ hHl
      have ha := oneAll H
      rw [hcH] at HN hs ho ha
      rw [hcL] at HRL HN
      rw [hcR] at HRR HN
      rw [hH, hcH]
      have hn2 : 2 ≤ n := h1
      have hne0 : ¬ ((n : Int) = 0) := by omega
      have hne1 : ¬ ((n : Int) = 1) := by omega
      clear ih hv hvL hvR hlL hlR hH hHl hcL hcR hcH hroot hk e hl hm hq
      go_enter Tryd.func31, Tryd.ntmps31
      go_wp2_with (with_reducible refine arm_alloc (zero_h32 _) ?_)
      intro b4 w4 hb4 k4 hV4 hz4
      change w4.heap[b4]? = some (.cells (zrow8 32) 27 (0, 0)) at k4
      have hl4 : w.heap.size ≤ b4 := by omega
      clear hb4 hz4
      go_wp2_with (fail)
      with_reducible refine (HSP.out _).mono ?_
      rintro e w5 ⟨rfl, rfl⟩
      go_upto_region 6 with (fail)
      refine wp_region_orders [0, 1, 2, 4, 5, 6] (.step 3 (.step 7 (.step 8 (.step 9 .none .none) .none) .none) .none) (Upd [b4] w4) (by kernel_rfl) (by kernel_rfl) ((Upd.refl _ _).drew) ?_
      refine takeO_cons _ (.slice A n c) rfl (by kernel_rfl) (yields_move (by kernel_rfl)) ?_
      refine takeO_cons _ (.int .i64 k) rfl (by kernel_rfl) (yields_move (by kernel_rfl)) ?_
      refine takeO_cons _ (.slice BL k c) rfl (by kernel_rfl) (yields_slice (by kernel_rfl) (by kernel_rfl) (by kernel_rfl) (by kernel_rfl) hL) ?_
      refine takeO_cons _ (.slice A n c) rfl (by kernel_rfl) (yields_move (by kernel_rfl)) ?_
      refine takeO_cons _ (.int .i64 k) rfl (by kernel_rfl) (yields_move (by kernel_rfl)) ?_
      refine takeO_cons _ (.slice BR m q) rfl (by kernel_rfl) (yields_slice (by kernel_rfl) (by kernel_rfl) (by kernel_rfl) (by kernel_rfl) hR) ?_
      refine takeO_nil (by simp [Ord.first]) ?_
      refine ordP_step _ (by simp only [List.getElem?_toArray, List.getElem?_cons_succ, List.getElem?_cons_zero]; rfl) ?_ ordP_none
      go_wp2_with fail
      with_reducible refine (HRL.out _ (hV4.trans (Upd.refl [] w4).drew)).mono ?_
      rintro e wx1 ⟨rfl, hUx1⟩
      have hTx1 := (Upd.refl [] w4).drew.trans hUx1
      go_wp2_with fail
      refine ord_more (by simp [Ord.first]) (Upd.of0 (T := [b4]) (hTx1)) ?_
      refine ordP_step _ (by simp only [List.getElem?_toArray, List.getElem?_cons_succ, List.getElem?_cons_zero]; rfl) ?_ ordP_none
      go_wp2_with fail
      with_reducible refine (HRR.out _ (hV4.trans hTx1)).mono ?_
      rintro e wx2 ⟨rfl, hUx2⟩
      have hTx2 := hTx1.trans hUx2
      go_wp2_with fail
      refine ord_more (by simp [Ord.first]) (Upd.of0 (T := [b4]) (hTx2)) ?_
      refine ordP_step _ (by simp only [List.getElem?_toArray, List.getElem?_cons_succ, List.getElem?_cons_zero]; rfl) ?_ ordP_none
      go_wp2_with fail
      with_reducible refine (HN.out _ (hV4.trans hTx2)).mono ?_
      rintro e wx3 ⟨rfl, hUx3⟩
      have hTx3 := hTx2.trans hUx3
      go_wp2_with fail
      refine ord_more (by simp [Ord.first]) (Upd.of0 (T := [b4]) (hTx3)) ?_
      refine ordP_step _ (by simp only [List.getElem?_toArray, List.getElem?_cons_succ, List.getElem?_cons_zero]; rfl) ?_ ordP_none
      with_reducible refine arm_store (by with_unfolding_all exact rfl) (by with_unfolding_all exact rfl) ((hTx3).heap k4 (by simp)) hs ho ha ?_
      intro wx4 hNx4 hXx4 hzx4
      have hTx4 := (Upd.of0 (T := [b4]) hTx3).trans hXx4
      go_wp2_with fail
      refine ord_last (hTx4) ?_
      show Exit.then _ _ Exit.normal _ _
      go_wp2_with fail
      refine bodyPost_ret (v := .agg cH) (results_cell_row rfl _ _ b4 27 _ (0, 0) _ rfl hNx4 Tryd.underlying27 rfl hs) rfl ⟨rfl, ?_⟩
      exact hV4.trans' hTx4 (fun i hm hi => by simp at hm; omega)
set_option maxRecDepth 100000 in
set_option maxHeartbeats 3200000 in
theorem refroot_ (w : World) (v : Value) (ls : List H8) (hv : RdH w v ls) (hn : ls.length ≤ 65536) :
    Calls Tryd.prog 12 #[v] w fun e w' => e = .returned (.tuple #[.agg ((rootOf ls).map U8).toArray, .bool true]) ∧ Upd [] w w' := by
  obtain ⟨A, c, e, hc1, hc2⟩ := hv.isSlice
  obtain ⟨n, hnn⟩ : ∃ n, ls.length = n := ⟨_, rfl⟩
  have HR : Hid (∀ W, Upd [] w W → Calls Tryd.prog 31 #[v] W fun e w' => e = .returned (.agg ((rootOf ls).map U8).toArray) ∧ Upd [] W w') := fun W hW => refrooted n ls W v hnn (by omega) (hv.upd0 hW)
  rw [hnn] at e hn
  rw [e] at HR ⊢
  obtain ⟨H, hH⟩ : ∃ H, rootOf ls = H := ⟨_, rfl⟩
  have hHl : H.length = 32 := by rw [← hH]; exact rootOf_length ls hv.1
  have hs := szrow hHl
  have ho := sameZ hHl
  have ha := oneAll H
  rw [hH] at HR ⊢
  obtain ⟨cH, hcH⟩ : ∃ c, (H.map U8).toArray = c := ⟨_, rfl⟩
  rw [hcH] at HR hs ho ha ⊢
  have hn' : (n : Int) ≤ 65536 := by omega
  clear hv e hnn hH hcH hHl
  go_enter Tryd.func12, Tryd.ntmps12
  go_wp2_with (with_reducible refine arm_alloc (zero_h32 _) ?_)
  intro b2 w2 hb2 k2 hV2 hz2
  change w2.heap[b2]? = some (.cells (zrow8 32) 27 (0, 0)) at k2
  have hl2 : w.heap.size ≤ b2 := by omega
  clear hb2 hz2
  go_wp2_with (fail)
  with_reducible refine (HR.out _ hV2).mono ?_
  rintro e w4 ⟨rfl, hU4⟩
  have k4 := hU4.heap k2 (by simp)
  have hV4 := hV2.trans hU4
  clear hU4 k2 hV2
  go_wp2_with (with_reducible refine arm_store (by with_unfolding_all exact rfl) (by with_unfolding_all exact rfl) k4 hs ho ha ?_)
  intro w5 k5 hX5 hz5
  go_wp2_with (fail)
  refine bodyPost_ret (v := .tuple #[.agg cH, .bool true]) (results_agg_tmp (p := 2) (u := 3) rfl _ _ b2 27 _ (0, 0) _ rfl k5 Tryd.underlying27 rfl hs) rfl ⟨rfl, ?_⟩
  exact hV4.trans' hX5 (fun i hm hi => by simp at hm; omega)
end Go.Proofs.YtdfoffheolbokaaDoor
