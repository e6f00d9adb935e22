/-
  over: the closure that tells the root of a piece of a list, and Root.
-/
import Derived.Test.YtdfoffheolbokaaDoorHashes
import Derived.Test.YtdfoffheolbokaaDoorSplit
namespace Go.Proofs.YtdfoffheolbokaaDoor
open Go Go.RowKit Go.Proofs
set_option maxRecDepth 100000 in
set_option maxHeartbeats 3200000 in
theorem root_none (w : World) (A : Option Addr) (c b : Nat) (hg : Gl256 w) (hf : GlFirst256 w) :
    Calls Tryd.prog 51 #[.slice A 0 c, .pointer (some ⟨b, 0, none⟩)] w fun e w' => e = .returned (.agg ((rootOf []).map U8).toArray) ∧ Upd [] w w' := by
  obtain ⟨H, hH⟩ : ∃ H, rootOf [] = H := ⟨_, rfl⟩
  have hHl : H.length = 32 := by rw [← hH, rootOf_nil]; exact sha256_length []
  have hs1 : ∀ W, Upd [] w W → Calls Tryd.prog 17 #[.slice none 0 0] W fun e w' => e = .returned (.agg (H.map U8).toArray) ∧ Upd [] W w' := fun W hW => by
    have := sum256 W _ [] (RdB.nil W) (by simp) (hg.upd hW (by simp)) (hf.upd hW (by simp))
    rwa [show sha256 [] = H by rw [← hH, rootOf_nil]] at this
  obtain ⟨cH, hcH⟩ : ∃ c, (H.map U8).toArray = c := ⟨_, rfl⟩
  have hs := szrow hHl
  have ho := sameZ hHl
  have ha := oneAll H
  rw [hcH] at hs1 hs ho ha
  rw [hH, hcH]
  have HS := Lib.hid hs1
  clear hg hf hH hHl hcH hs1
  go_enter Tryd.func51, Tryd.ntmps51
  go_wp2_with (with_reducible refine arm_alloc (zero_h32 _) ?_)
  intro b4 w4 hb4 k4 hV4 hz4
  change w4.heap[b4]? = some (.cells (zrow8 32) 27 (0, 0)) at k4
  have hl4 : w.heap.size ≤ b4 := by omega
  clear hb4 hz4
  go_wp2_with (fail)
  with_reducible refine (HS.out _ hV4).mono ?_
  rintro e w5 ⟨rfl, hU5⟩
  have k5 := hU5.heap k4 (by simp)
  have hV5 := hV4.trans hU5
  clear k4 hV4 hU5
  go_wp2_with (with_reducible refine arm_store (by with_unfolding_all exact rfl) (by with_unfolding_all exact rfl) k5 hs ho ha ?_)
  intro w11 k11 hX11 hz11
  go_wp2_with (fail)
  refine bodyPost_ret (v := .agg cH) (results_cell_row rfl _ _ b4 27 _ (0, 0) _ rfl k11 Tryd.underlying27 rfl hs) rfl ⟨rfl, ?_⟩
  exact hV5.trans' hX11 (fun i hm hi => by simp at hm; omega)
set_option maxRecDepth 100000 in
set_option maxHeartbeats 3200000 in
theorem root_one (w : World) (v : Value) (x : H8) (b : Nat) (hv : RdH w v [x]) :
    Calls Tryd.prog 51 #[v, .pointer (some ⟨b, 0, none⟩)] w fun e w' => e = .returned (.agg (x.map U8).toArray) ∧ Upd [] w w' := by
  have hxl : x.length = 32 := hv.1 x (by simp)
  obtain ⟨g, p, c, rfl, hc1, hc2, _⟩ := hv.at (by simp)
  have he := hv.elem 0 (by simp)
  simp only [Nat.zero_mul, Nat.add_zero, List.getElem_cons_zero] at he
  obtain ⟨cs, hcs⟩ : ∃ cs, x.map U8 = cs := ⟨_, rfl⟩
  have hs := szrow hxl
  have ho := sameZ hxl
  have ha := oneAll x
  have hsl := szlist hxl
  rw [hcs] at he hs ho ha hsl ⊢
  clear hv hcs hxl
  go_enter Tryd.func51, Tryd.ntmps51
  go_wp2_with (with_reducible refine arm_alloc (zero_h32 _) ?_)
  intro b4 w4 hb4 k4 hV4 hz4
  change w4.heap[b4]? = some (.cells (zrow8 32) 27 (0, 0)) at k4
  have hl4 : w.heap.size ≤ b4 := by omega
  have he4 : w4.rangeAt g p cs := fun j v hj => hV4.cell (he j v hj) (by simp)
  clear hb4 hz4 he
  go_wp2_with (first
    | (with_reducible refine arm_load_mid (by with_unfolding_all exact rfl) he4 Tryd.underlying27 rfl hsl ?_)
    | (with_reducible refine arm_store (by with_unfolding_all exact rfl) (by with_unfolding_all exact rfl) k4 hs ho ha ?_))
  intro w11 k11 hX11 hz11
  go_wp2_with (fail)
  refine bodyPost_ret (v := .agg cs.toArray) (results_cell_row rfl _ _ b4 27 _ (0, 0) _ rfl k11 Tryd.underlying27 rfl hs) rfl ⟨rfl, ?_⟩
  exact hV4.trans' hX11 (fun i hm hi => by simp at hm; omega)
set_option maxRecDepth 100000 in
set_option maxHeartbeats 6400000 in
theorem rooted (b : Nat) : ∀ (n : Nat) (ls : List H8) (w : World) (v : Value), ls.length = n → n ≤ 65536 → RdH w v ls → w.cell? ⟨b, 0, none⟩ = some (.func (.func 51) #[] #[.pointer (some ⟨b, 0, none⟩)]) → Gl256 w → GlFirst256 w →
    Calls Tryd.prog 51 #[v, .pointer (some ⟨b, 0, none⟩)] w fun e w' => e = .returned (.agg ((rootOf ls).map U8).toArray) ∧ Upd [] w w' := by
  intro n
  induction n using Nat.strongRecOn with
  | ind n ih =>
    intro ls w v hl hn hv hc hg hf
    match ls, hl with
    | [], _ =>
      obtain ⟨A, c, rfl, _, _⟩ := hv.isSlice
      exact root_none w A c b hg hf
    | [x], _ =>
      rw [rootOf_one]
      exact root_one w v x b hv
    | x :: y :: r, hl =>
      obtain ⟨ls, hls⟩ : ∃ ls, x :: y :: r = ls := ⟨_, rfl⟩
      have h1 : 1 < n := by rw [← hl]; simp
      rw [hls] at hl hv ⊢
      clear hls
      have hroot := rootOf_more ls (by omega)
      rw [hl] at hroot
      have hk1 := halfN_lt h1
      have hk0 := halfN_pos n
      have HSP : Hid (∀ W, Calls Tryd.prog 37 #[.int .i64 n] W fun e w' => e = .returned (.int .i64 (halfN n)) ∧ W = w') := fun W => split_ W n h1 hn
      obtain ⟨k, hk⟩ : ∃ k, halfN n = k := ⟨_, rfl⟩
      rw [hk] at hk1 hk0 hroot HSP
      obtain ⟨A, c, e, hc1, hc2⟩ := hv.isSlice
      rw [hl] at e hc1
      rw [e] at hv ⊢
      obtain ⟨BL, hL, hvL⟩ := hv.cut3 0 k none (.inl ⟨rfl, rfl⟩) (by omega) (by omega)
      obtain ⟨BR, hR, hvR⟩ := hv.cut2 k n (some (.int .i64 k)) none (.inr rfl) (.inl ⟨rfl, rfl⟩) (by omega) (Nat.le_refl _)
      rw [List.drop_zero] at hvL
      rw [List.take_of_length_le (by omega)] at hvR
      rw [Nat.sub_zero] at hL hvL
      obtain ⟨m, hm⟩ : ∃ m, n - k = m := ⟨_, rfl⟩
      obtain ⟨q, hq⟩ : ∃ q, c - k = q := ⟨_, rfl⟩
      rw [hm, hq] at hvR hR
      have HRL : Hid (∀ W, Upd [] w W → Calls Tryd.prog 51 #[.slice BL k k, .pointer (some ⟨b, 0, none⟩)] W fun e w' => e = .returned (.agg ((rootOf (ls.take k)).map U8).toArray) ∧ Upd [] W w') := fun W hW =>
        ih k hk1 (ls.take k) W _ (by simp; omega) (by omega) (hvL.upd0 hW) (hW.cell hc (by simp)) (hg.upd hW (by simp)) (hf.upd hW (by simp))
      have HRR : Hid (∀ W, Upd [] w W → Calls Tryd.prog 51 #[.slice BR m q, .pointer (some ⟨b, 0, none⟩)] W fun e w' => e = .returned (.agg ((rootOf (ls.drop k)).map U8).toArray) ∧ Upd [] W w') := fun W hW =>
        ih m (by omega) (ls.drop k) W _ (by simp; omega) (by omega) (hvR.upd0 hW) (hW.cell hc (by simp)) (hg.upd hW (by simp)) (hf.upd hW (by simp))
      have hlL : (rootOf (ls.take k)).length = 32 := rootOf_length _ (fun x hx => hv.1 x (List.mem_of_mem_take hx))
      have hlR : (rootOf (ls.drop k)).length = 32 := rootOf_length _ (fun x hx => hv.1 x (List.mem_of_mem_drop hx))
      obtain ⟨H, hH⟩ : ∃ H, rootOf ls = H := ⟨_, rfl⟩
      have hHl : H.length = 32 := by rw [← hH]; exact rootOf_length _ hv.1
      have HN : Hid (∀ W, Upd [] w W → Calls Tryd.prog 20 #[.agg ((rootOf (ls.take k)).map U8).toArray, .agg ((rootOf (ls.drop k)).map U8).toArray] W fun e w' => e = .returned (.agg (H.map U8).toArray) ∧ Upd [] W w') := fun W hW => by
        rw [← hH, hroot]
        exact node_ W _ _ hlL hlR (hg.upd hW (by simp)) (hf.upd hW (by simp))
      obtain ⟨cL, hcL⟩ : ∃ c, ((rootOf (ls.take k)).map U8).toArray = c := ⟨_, rfl⟩
      obtain ⟨cR, hcR⟩ : ∃ c, ((rootOf (ls.drop k)).map U8).toArray = c := ⟨_, rfl⟩
      obtain ⟨cH, hcH⟩ : ∃ c, (H.map U8).toArray = c := ⟨_, rfl⟩
      have hs := szrow hHl
      have ho := sameZ hHl
      have ha := oneAll H
      rw [hcH] at HN hs ho ha
      rw [hcL] at HRL HN
      rw [hcR] at HRR HN
      rw [hH, hcH]
      have HC := Lib.hid hc
      have hn2 : 2 ≤ n := h1
      have hne0 : ¬ ((n : Int) = 0) := by omega
      have hne1 : ¬ ((n : Int) = 1) := by omega
      clear ih hv hvL hvR hg hf hlL hlR hH hHl hcL hcR hcH hroot hk e hl hc hm hq
      go_enter Tryd.func51, Tryd.ntmps51
      go_wp2_with (with_reducible refine arm_alloc (zero_h32 _) ?_)
      intro b4 w4 hb4 k4 hV4 hz4
      change w4.heap[b4]? = some (.cells (zrow8 32) 27 (0, 0)) at k4
      have hl4 : w.heap.size ≤ b4 := by omega
      clear hb4 hz4
      go_wp2_with (fail)
      with_reducible refine (HSP.out _).mono ?_
      rintro e w5 ⟨rfl, rfl⟩
      go_upto_region 7 with (fail)
      have hcell : ∀ W, Upd [b4] w4 W → W.cell? ⟨b, 0, none⟩ = some (.func (.func 51) #[] #[.pointer (some ⟨b, 0, none⟩)]) := fun W hW => hW.cell (hV4.cell HC.out (by simp)) (by
        have := World.block_lt_of_cell? w ⟨b, 0, none⟩ HC.out
        simp at this ⊢; omega)
      have HCE := Lib.hid hcell
      clear hcell
      refine wp_region_orders [0, 1, 2, 3, 4, 6, 7, 8, 9] (.step 5 (.step 10 (.step 11 (.step 12 .none .none) .none) .none) .none) (Upd [b4] w4) (by kernel_rfl) (by kernel_rfl) ((Upd.refl _ _).drew) ?_
      refine takeO_cons _ (.func (.func 51) #[] #[.pointer (some ⟨b, 0, none⟩)]) rfl (by kernel_rfl) (yields_cell (by kernel_rfl) (fun W hW => HCE.out W hW) Tryd.underlying70 rfl) ?_
      refine takeO_cons _ (.slice A n c) rfl (by kernel_rfl) (yields_move (by kernel_rfl)) ?_
      refine takeO_cons _ (.int .i64 k) rfl (by kernel_rfl) (yields_move (by kernel_rfl)) ?_
      refine takeO_cons _ (.int .i64 k) rfl (by kernel_rfl) (yields_move (by kernel_rfl)) ?_
      refine takeO_cons _ (.slice BL k k) rfl (by kernel_rfl) (yields_slice (by kernel_rfl) (by kernel_rfl) (by kernel_rfl) (by kernel_rfl) hL) ?_
      refine takeO_cons _ (.func (.func 51) #[] #[.pointer (some ⟨b, 0, none⟩)]) rfl (by kernel_rfl) (yields_cell (by kernel_rfl) (fun W hW => HCE.out W hW) Tryd.underlying70 rfl) ?_
      refine takeO_cons _ (.slice A n c) rfl (by kernel_rfl) (yields_move (by kernel_rfl)) ?_
      refine takeO_cons _ (.int .i64 k) rfl (by kernel_rfl) (yields_move (by kernel_rfl)) ?_
      refine takeO_cons _ (.slice BR m q) rfl (by kernel_rfl) (yields_slice (by kernel_rfl) (by kernel_rfl) (by kernel_rfl) (by kernel_rfl) hR) ?_
      refine takeO_nil (by simp [Ord.first]) ?_
      refine ordP_step _ (by simp only [List.getElem?_toArray, List.getElem?_cons_succ, List.getElem?_cons_zero]; rfl) ?_ ordP_none
      go_wp2_with fail
      with_reducible refine (HRL.out _ (hV4.trans (Upd.refl [] w4).drew)).mono ?_
      rintro e wx1 ⟨rfl, hUx1⟩
      have hTx1 := (Upd.refl [] w4).drew.trans hUx1
      go_wp2_with fail
      refine ord_more (by simp [Ord.first]) (Upd.of0 (T := [b4]) (hTx1)) ?_
      refine ordP_step _ (by simp only [List.getElem?_toArray, List.getElem?_cons_succ, List.getElem?_cons_zero]; rfl) ?_ ordP_none
      go_wp2_with fail
      with_reducible refine (HRR.out _ (hV4.trans hTx1)).mono ?_
      rintro e wx2 ⟨rfl, hUx2⟩
      have hTx2 := hTx1.trans hUx2
      go_wp2_with fail
      refine ord_more (by simp [Ord.first]) (Upd.of0 (T := [b4]) (hTx2)) ?_
      refine ordP_step _ (by simp only [List.getElem?_toArray, List.getElem?_cons_succ, List.getElem?_cons_zero]; rfl) ?_ ordP_none
      go_wp2_with fail
      with_reducible refine (HN.out _ (hV4.trans hTx2)).mono ?_
      rintro e wx3 ⟨rfl, hUx3⟩
      have hTx3 := hTx2.trans hUx3
      go_wp2_with fail
      refine ord_more (by simp [Ord.first]) (Upd.of0 (T := [b4]) (hTx3)) ?_
      refine ordP_step _ (by simp only [List.getElem?_toArray, List.getElem?_cons_succ, List.getElem?_cons_zero]; rfl) ?_ ordP_none
      with_reducible refine arm_store (by with_unfolding_all exact rfl) (by with_unfolding_all exact rfl) ((hTx3).heap k4 (by simp)) hs ho ha ?_
      intro wx4 hNx4 hXx4 hzx4
      have hTx4 := (Upd.of0 (T := [b4]) hTx3).trans hXx4
      go_wp2_with fail
      refine ord_last (hTx4) ?_
      show Exit.then _ _ Exit.normal _ _
      go_wp2_with fail
      refine bodyPost_ret (v := .agg cH) (results_cell_row rfl _ _ b4 27 _ (0, 0) _ rfl hNx4 Tryd.underlying27 rfl hs) rfl ⟨rfl, ?_⟩
      exact hV4.trans' hTx4 (fun i hm hi => by simp at hm; omega)
set_option maxRecDepth 100000 in
/-- a closure that tells the roots of a list's pieces -/
def IsOver (w : World) (f : Value) (ls : List H8) : Prop := ∃ b c v, f = .func (.func 52) #[] #[.pointer (some ⟨b, 0, none⟩), .pointer (some ⟨c, 0, none⟩)] ∧ w.cell? ⟨b, 0, none⟩ = some (.func (.func 51) #[] #[.pointer (some ⟨b, 0, none⟩)]) ∧ w.cell? ⟨c, 0, none⟩ = some v ∧ RdH w v ls
theorem IsOver.upd0 {w w' : World} {f : Value} {ls : List H8} (h : IsOver w f ls) (u : Upd [] w w') : IsOver w' f ls := by
  obtain ⟨b, c, v, e, h1, h2, h3⟩ := h
  exact ⟨b, c, v, e, u.cell h1 (by simp), u.cell h2 (by simp), h3.upd0 u⟩
theorem zero_fn (w : World) : (zeroValue 70).run Tryd.prog w = .ok .nilFunc w := by kernel_rfl
theorem size_fn : (Tryd.prog.info? 70).map (·.size) = some 1 := by kernel_rfl
theorem RdH.cells {w : World} {v : Value} {ls : List H8} (h : RdH w v ls) : v.cells = #[v] := by
  obtain ⟨_, A, c, rfl, _⟩ := h; rfl
set_option maxRecDepth 100000 in
set_option maxHeartbeats 3200000 in
theorem over_ (w : World) (v : Value) (ls : List H8) (hv : RdH w v ls) :
    Calls Tryd.prog 35 #[v] w fun e w' => ∃ f, e = .returned f ∧ IsOver w' f ls ∧ Upd [] w w' := by
  have hvc := hv.cells
  have HV := Lib.hid hv
  have HVC := Lib.hid hvc
  clear hv hvc
  go_enter Tryd.func35, Tryd.ntmps35
  go_wp2_with (with_reducible refine arm_box (by with_unfolding_all exact rfl) ?_)
  intro b1 w1 hb1 k1 hU1 hz1
  change w1.heap[b1]? = some (.cells v.cells 25 (0, 0)) at k1
  rw [HVC.out] at k1
  go_wp2_with (with_reducible refine arm_alloc (zero_fn _) ?_)
  intro b3 w3 hb3 k3 hU3 hz3
  change w3.heap[b3]? = some (.cells #[.nilFunc] 70 (0, 0)) at k3
  have k13 := hU3.heap k1 (by simp)
  have hV3 := hU1.trans hU3
  have hlt : b1 ≠ b3 := by omega
  have hl3 : w.heap.size ≤ b3 := by have := hU1.size; omega
  have HN := Lib.hid (show b1 ∉ [b3] by simpa using hlt)
  clear hb1 hz1 hb3 hz3 k1 hU1 hU3 hlt
  go_wp2_with (with_reducible refine arm_store1 (by with_unfolding_all exact rfl) (by with_unfolding_all exact rfl) k3 rfl size_fn rfl ?_)
  intro w4 k4 hX4 hz4
  have k14 := hX4.heap k13 HN.out
  have hV4 := hV3.trans' hX4 (fun i hm hi => by simp at hm; omega)
  clear k13 k3 hX4 hz4 hV3
  have c3 := cell_of_row w4 b3 0 _ _ _ k4
  have c1 := cell_of_row w4 b1 0 _ _ _ k14
  have C3 := Lib.hid c3
  have C1 := Lib.hid c1
  clear c3 c1 k4 k14
  go_wp2_with (fail)
  go_ret
  exact ⟨_, rfl, ⟨b3, b1, v, rfl, C3.out, C1.out, HV.out.upd0 hV4⟩, hV4⟩
set_option maxRecDepth 100000 in
set_option maxHeartbeats 6400000 in
theorem over2_ (w : World) (b q : Nat) (v : Value) (ls : List H8) (hn : ls.length ≤ 65536) (hc : w.cell? ⟨b, 0, none⟩ = some (.func (.func 51) #[] #[.pointer (some ⟨b, 0, none⟩)])) (hq : w.cell? ⟨q, 0, none⟩ = some v) (hv : RdH w v ls) (i j : Nat) (h1 : i ≤ j) (h2 : j ≤ ls.length) (hg : Gl256 w) (hf : GlFirst256 w) :
    Calls Tryd.prog 52 #[.int .i64 i, .int .i64 j, .pointer (some ⟨b, 0, none⟩), .pointer (some ⟨q, 0, none⟩)] w fun e w' => e = .returned (.agg ((rootOf ((ls.take j).drop i)).map U8).toArray) ∧ Upd [] w w' := by
  obtain ⟨A, c, e, hc1, hc2⟩ := hv.isSlice
  obtain ⟨n, hnn⟩ : ∃ n, ls.length = n := ⟨_, rfl⟩
  rw [hnn] at e h2 hn
  rw [e] at hv hq
  obtain ⟨B, hB, hvB⟩ := hv.cut3 i j (some (.int .i64 i)) (.inr rfl) h1 h2
  obtain ⟨m, hm⟩ : ∃ m, j - i = m := ⟨_, rfl⟩
  rw [hm] at hB hvB
  have HR : Hid (∀ W, Upd [] w W → Calls Tryd.prog 51 #[.slice B m m, .pointer (some ⟨b, 0, none⟩)] W fun e w' => e = .returned (.agg ((rootOf ((ls.take j).drop i)).map U8).toArray) ∧ Upd [] W w') := fun W hW =>
    rooted b m _ W _ (by simp; omega) (by omega) (hvB.upd0 hW) (hW.cell hc (by simp)) (hg.upd hW (by simp)) (hf.upd hW (by simp))
  have hHl : (rootOf ((ls.take j).drop i)).length = 32 := rootOf_length _ hvB.1
  have hs := szrow hHl
  have ho := sameZ hHl
  have ha := oneAll (rootOf ((ls.take j).drop i))
  obtain ⟨cH, hcH⟩ : ∃ c, ((rootOf ((ls.take j).drop i)).map U8).toArray = c := ⟨_, rfl⟩
  rw [hcH] at HR hs ho ha ⊢
  have hlb := World.block_lt_of_cell? w ⟨b, 0, none⟩ hc
  have hlq := World.block_lt_of_cell? w ⟨q, 0, none⟩ hq
  simp only at hlb hlq
  have HC := Lib.hid hc
  have HQ := Lib.hid hq
  clear hc hq hv hvB hg hf hHl hcH hm e hnn
  go_enter Tryd.func52, Tryd.ntmps52
  go_wp2_with (with_reducible refine arm_alloc (zero_h32 _) ?_)
  intro b4 w4 hb4 k4 hV4 hz4
  change w4.heap[b4]? = some (.cells (zrow8 32) 27 (0, 0)) at k4
  have hl4 : w.heap.size ≤ b4 := by omega
  clear hb4 hz4
  go_upto_region 1 with (fail)
  have hcell : ∀ W, Upd [b4] w4 W → W.cell? ⟨b, 0, none⟩ = some (.func (.func 51) #[] #[.pointer (some ⟨b, 0, none⟩)]) := fun W hW => hW.cell (hV4.cell HC.out (by simp)) (by simp; omega)
  have hcell2 : ∀ W, Upd [b4] w4 W → W.cell? ⟨q, 0, none⟩ = some (.slice A n c) := fun W hW => hW.cell (hV4.cell HQ.out (by simp)) (by simp; omega)
  have HCE := Lib.hid hcell
  have HCQ := Lib.hid hcell2
  clear hcell hcell2
  refine wp_region_orders [0, 1, 2, 3, 4, 5] (.step 6 (.step 7 .none .none) .none) (Upd [b4] w4) (by kernel_rfl) (by kernel_rfl) ((Upd.refl _ _).drew) ?_
  refine takeO_cons _ (.func (.func 51) #[] #[.pointer (some ⟨b, 0, none⟩)]) rfl (by kernel_rfl) (yields_cell (by kernel_rfl) (fun W hW => HCE.out W hW) Tryd.underlying70 rfl) ?_
  refine takeO_cons _ (.slice A n c) rfl (by kernel_rfl) (yields_cell (by kernel_rfl) (fun W hW => HCQ.out W hW) Tryd.underlying25 rfl) ?_
  refine takeO_cons _ (.int .i64 i) rfl (by kernel_rfl) (yields_move (by kernel_rfl)) ?_
  refine takeO_cons _ (.int .i64 j) rfl (by kernel_rfl) (yields_move (by kernel_rfl)) ?_
  refine takeO_cons _ (.int .i64 j) rfl (by kernel_rfl) (yields_move (by kernel_rfl)) ?_
  refine takeO_cons _ (.slice B m m) rfl (by kernel_rfl) (yields_slice (by kernel_rfl) (by kernel_rfl) (by kernel_rfl) (by kernel_rfl) hB) ?_
  refine takeO_nil (by simp [Ord.first]) ?_
  refine ordP_step _ (by simp only [List.getElem?_toArray, List.getElem?_cons_succ, List.getElem?_cons_zero]; rfl) ?_ ordP_none
  go_wp2_with fail
  with_reducible refine (HR.out _ (hV4.trans (Upd.refl [] w4).drew)).mono ?_
  rintro e wx5 ⟨rfl, hUx5⟩
  have hTx5 := (Upd.refl [] w4).drew.trans hUx5
  go_wp2_with fail
  refine ord_more (by simp [Ord.first]) (Upd.of0 (T := [b4]) (hTx5)) ?_
  refine ordP_step _ (by simp only [List.getElem?_toArray, List.getElem?_cons_succ, List.getElem?_cons_zero]; rfl) ?_ ordP_none
  with_reducible refine arm_store (by with_unfolding_all exact rfl) (by with_unfolding_all exact rfl) ((hTx5).heap k4 (by simp)) hs ho ha ?_
  intro wx6 hNx6 hXx6 hzx6
  have hTx6 := (Upd.of0 (T := [b4]) hTx5).trans hXx6
  go_wp2_with fail
  refine ord_last (hTx6) ?_
  show Exit.then _ _ Exit.normal _ _
  go_wp2_with fail
  refine bodyPost_ret (v := .agg cH) (results_cell_row rfl _ _ b4 27 _ (0, 0) _ rfl hNx6 Tryd.underlying27 rfl hs) rfl ⟨rfl, ?_⟩
  exact hV4.trans' hTx6 (fun i hm hi => by simp at hm; omega)
theorem IsOver.call {w : World} {f : Value} {ls : List H8} (h : IsOver w f ls) : ∃ b q, f = .func (.func 52) #[] #[.pointer (some ⟨b, 0, none⟩), .pointer (some ⟨q, 0, none⟩)] ∧ ∀ W, Upd [] w W → ∀ (i j : Nat), ls.length ≤ 65536 → i ≤ j → j ≤ ls.length → Gl256 W → GlFirst256 W →
    Calls Tryd.prog 52 #[.int .i64 i, .int .i64 j, .pointer (some ⟨b, 0, none⟩), .pointer (some ⟨q, 0, none⟩)] W fun e w' => e = .returned (.agg ((rootOf ((ls.take j).drop i)).map U8).toArray) ∧ Upd [] W w' := by
  obtain ⟨b, q, v, e, h1, h2, h3⟩ := h
  exact ⟨b, q, e, fun W hW i j hn hi hj hg hf => over2_ W b q v ls hn (hW.cell h1 (by simp)) (hW.cell h2 (by simp)) (h3.upd0 hW) i j hi hj hg hf⟩
end Go.Proofs.YtdfoffheolbokaaDoor
