/-
  Append of a tree.
-/
import Derived.Test.YtdfoffheolbokaaDoorTreeRoot
namespace Go.Proofs.YtdfoffheolbokaaDoor
open Go Go.RowKit Go.Proofs
def zpeak : Array Value := #[Value.int .i64 0] ++ zrow8 32
theorem zpeak_size : zpeak.size = 33 := by simp [zpeak, zrow8_size]
theorem zero_peak (w : World) : (zeroValue 72).run Tryd.prog w = .ok (.agg zpeak) w := by kernel_rfl
theorem size_peaks : (Tryd.prog.info? 67).map (·.size) = some 1 := by kernel_rfl
theorem own_eq (A : Option Addr) (n m c : Nat) : (Value.slice A n c).ownBlock = (Value.slice A m c).ownBlock := by cases A <;> rfl
theorem elem_peaks : Tryd.prog.elem 67 = 72 := by kernel_rfl
theorem size_peakE : (Tryd.prog.info? (Tryd.prog.elem 67)).map (·.size) = some 33 := by kernel_rfl
theorem cut_peaks (g n c j : Nat) (h : j ≤ n) (h3 : n ≤ c) (W : World) : (Instr.sliceAt 67 (.slice (some ⟨g, 0, none⟩) n c) none (some (.int .i64 j)) none).run Tryd.prog W = .ok (.slice (some ⟨g, 0, none⟩) j c) W := by
  have := run_cut W 67 33 (by rw [elem_peaks]; exact Tryd.underlying67) size_peakE (some ⟨g, 0, none⟩) n c 0 j none (some (.int .i64 j)) (.inl ⟨rfl, rfl⟩) (.inr rfl) (by omega) h h3
  simpa [show (⟨g, 0, none⟩ : Addr).add 0 = ⟨g, 0, none⟩ from rfl] using this
def Appended (w : World) (bt : Nat) (pv : Value) (l : List H8) (x : H8) (e : Ending) (w' : World) : Prop := e = .returned (.bool true) ∧ ∃ pv', TreeAt w' bt pv' (l ++ [x]) ∧ (pv'.ownBlock = pv.ownBlock ∨ ∃ k, pv'.ownBlock = some k ∧ w.heap.size ≤ k) ∧ Upd (bt :: pv.ownBlock.toList) w w'
theorem peakC_all (t : List H8) : (peakC t).toArray.all (·.oneCell') = true := by
  rw [Array.all_eq_true]
  intro i hi
  exact peakC_one t _ (by simp)
set_option maxRecDepth 100000 in
theorem tappend_full (w : World) (bt : Nat) (pv : Value) (l : List H8) (cx : Array Value) (h : TreeAt w bt pv l) (hln : l.length = 65536) :
    Calls Tryd.prog 15 #[.pointer (some ⟨bt, 0, none⟩), .agg cx] w fun e w' => e = .returned (.bool false) ∧ Upd [] w w' := by
  obtain ⟨_, S, _, hh, _⟩ := h
  rw [hln] at hh
  clear hln
  go_enter Tryd.func15, Tryd.ntmps15
  go_wp2_with (with_reducible refine arm_box (by with_unfolding_all exact rfl) ?_)
  intro b3 w3 hb3 k3 hU3 hz3
  have hh3 := hU3.heap hh (by simp)
  have hc : w3.cell? ⟨bt, 1, none⟩ = some (.int .i64 65536) := by rw [cell_of_row _ _ _ _ _ _ hh3]; rfl
  go_wp2_with (fail)
  go_ret
  exact ⟨rfl, hU3⟩
set_option maxRecDepth 100000 in
set_option maxHeartbeats 12800000 in
theorem tappend_ (w : World) (bt : Nat) (pv : Value) (l : List H8) (x : H8) (h : TreeAt w bt pv l) (hx : x.length = 32) (hln : l.length < 65536) (hgb : 1 < bt) (hfb : 0 < bt) (hg : Gl256 w) (hf : GlFirst256 w) :
    Calls Tryd.prog 15 #[.pointer (some ⟨bt, 0, none⟩), .agg (x.map U8).toArray] w fun e w' => Appended w bt pv l x e w' := by
  obtain ⟨hll, S, hP, hh, hO⟩ := h
  have hKl := peaks_bound hP
  have hG0 : Grows (S.take S.length) [x] l x := by rw [List.take_of_length_le (Nat.le_refl _)]; exact hP.grows x
  obtain ⟨A, cap, e⟩ := hO.isSlice
  have hOt : OwnK w (bt + 1) pv (S.take S.length) := by rw [List.take_of_length_le (Nat.le_refl _)]; exact hO
  obtain ⟨K, hK⟩ : ∃ K, S.length = K := ⟨_, rfl⟩
  obtain ⟨N, hN⟩ : ∃ N, l.length = N := ⟨_, rfl⟩
  rw [hK] at e hKl hOt hG0
  rw [hN] at hKl hh hln
  rw [e] at hh hOt ⊢
  have HND : Hid (∀ W (x y : H8), x.length = 32 → y.length = 32 → Upd [bt] w W → Calls Tryd.prog 20 #[.agg (x.map U8).toArray, .agg (y.map U8).toArray] W fun e w' => e = .returned (.agg ((nodeH x y).map U8).toArray) ∧ Upd [] W w') := fun W x y hx hy hW => node_ W x y hx hy (hg.upd hW (by simp; omega)) (hf.upd hW (by simp; omega))
  have hR1 : rootOf [x] = x := rootOf_one x
  have hb1 := built_peak [x] x 1 rfl hR1.symm (by rw [hR1]; exact hx)
  have hpl : (peakC [x]).length = 33 := peakC_length (by rw [hR1]; exact hx)
  have hsx := szrow hx
  have hsP : (Tryd.prog.info? 72).map (·.size) = some (peakC [x]).toArray.size := by rw [size_peak]; simp [hpl]
  have hoP : zpeak.size = (peakC [x]).toArray.size := by rw [zpeak_size]; simp [hpl]
  have haP := peakC_all [x]
  have HX := Lib.hid hx
  have HLL := Lib.hid hll
  have HK := Lib.hid hK
  have HN := Lib.hid hN
  have HOT := Lib.hid hOt
  have HG0 := Lib.hid hG0
  have HLN : Hid (N < 65536) := hln
  have HKN : Hid (K ≤ N) := hKl
  have HOS := Lib.hid hO.1
  have n1 : decide ((N : Int) ≥ 65536) = false := by simp; omega
  have n2 : ¬ ((N : Int) ≥ 65536) := by omega
  have n3 : ¬ (65536 ≤ N) := by omega
  have n4 : (N : Int) ≤ 65536 := by omega
  have kB : (K : Int) ≤ 65536 := by omega
  obtain ⟨cx, hcx⟩ : ∃ c, (x.map U8).toArray = c := ⟨_, rfl⟩
  rw [hcx] at hsx hb1 ⊢
  obtain ⟨cP, hcP⟩ : ∃ c, (peakC [x]).toArray = c := ⟨_, rfl⟩
  rw [hcP] at hb1 hsP hoP haP
  have HCP := Lib.hid hcP
  have HH := Lib.hid hh
  have HBT : Hid (bt < w.heap.size) := lt_of_heap hh
  clear hO hOt hK hN hln hKl hll hx hG0 hg hf hP hR1 hcx hcP hpl e hgb hfb
  go_enter Tryd.func15, Tryd.ntmps15
  go_wp2_with (with_reducible refine arm_box (by with_unfolding_all exact rfl) ?_)
  intro b3 w3 hb3 k3 hU3 hz3
  change w3.heap[b3]? = some (.cells cx 27 (0, 0)) at k3
  have hh3 := hU3.heap hh (by simp)
  have hc : w3.cell? ⟨bt, 1, none⟩ = some (.int .i64 N) := by rw [cell_of_row _ _ _ _ _ _ hh3]; rfl
  go_wp2_with (first
    | (with_reducible refine arm_load (by with_unfolding_all exact rfl) k3 Tryd.underlying27 (by with_unfolding_all exact rfl) hsx ?_)
    | (with_reducible refine arm_build2 (by with_unfolding_all exact rfl) (by with_unfolding_all exact rfl) hb1 ?_)
    | (with_reducible refine arm_alloc (zero_peak _) ?_))
  intro b5 w4 hb5 k4 hU4 hz4
  change w4.heap[b5]? = some (.cells zpeak 72 (0, 0)) at k4
  go_wp2_with (with_reducible refine arm_store (by with_unfolding_all exact rfl) (by with_unfolding_all exact rfl) k4 hsP hoP haP ?_)
  intro w5 k5 hX5 hz5
  have hT5 := hU4.fresh hb5 hX5
  have hV5 := hU3.trans hT5
  have hh5 := hV5.heap hh (by simp)
  have hlb5 : w.heap.size ≤ b5 := by have := hU3.size; omega
  have hO5 := HOT.out.upd0 hV5
  have HV5 := Lib.hid hV5
  have HO5B : Hid (∀ b, (Value.slice A K cap).ownBlock = some b → b < b5) := fun b hb => by have := (HOT.out.lt b hb).2; omega
  have HO5 := Lib.hid hO5
  have HK5 : Hid (w5.heap[b5]? = some (.cells (peakC [x]).toArray 72 (0, 0))) := by
    show w5.heap[b5]? = _
    rw [HCP.out]; exact k5
  have HH5 := Lib.hid hh5
  have hc5 : w5.cell? ⟨bt, 0, none⟩ = some (.slice A K cap) := by rw [cell_of_row _ _ _ _ _ _ hh5]; rfl
  clear hb3 k3 hU3 hz3 hh3 hc hb5 k4 hU4 hz4 k5 hX5 hz5 hT5 hV5 hO5 hh5 hsx hb1 hsP hoP haP hh
  go_wp2_with (fail)
  clear hc5
  go_loopw [6] (fun sv wr => ∃ k : Nat, ∃ t : List H8, k ≤ K ∧ sv = .int .i64 k ∧ Grows (S.take k) t l x ∧ (rootOf t).length = 32 ∧ wr.heap[bt]? = some (.cells #[.slice A k cap, .int .i64 N] 69 (0, 0)) ∧ wr.heap[b5]? = some (.cells (peakC t).toArray 72 (0, 0)) ∧ OwnK wr (bt + 1) (.slice A k cap) (S.take k) ∧ Upd [bt, b5] w5 wr) (fun sv _ => (intOf sv).toNat)
  case atStart => exact ⟨K, [x], Nat.le_refl _, rfl, HG0.out, by rw [rootOf_one]; exact HX.out, HH5.out, HK5.out, HO5.out, Upd.refl _ _⟩
  case round =>
    obtain ⟨k, t, hk, rfl, hG, hRt, hhq, k5, hOw, hU⟩ := hrel
    have HG := Lib.hid hG
    have HU := Lib.hid hU
    have HOW := Lib.hid hOw
    have HHQ := Lib.hid hhq
    have HK5q := Lib.hid k5
    obtain ⟨wo, rfl⟩ : ∃ wo : World, wo = wr := ⟨_, rfl⟩
    have hV : Upd [bt] w wo := (Upd.of0 (T := [bt]) HV5.out).trans' hU (fun i hm hi => by simp at hm ⊢; omega)
    have HV := Lib.hid hV
    have hplt : (peakC t).length = 33 := peakC_length hRt
    have kq : (k : Int) ≤ 65536 := by omega
    have hOwX := hOw
    clear hG hU hV hOw hhq k5
    rcases k with _ | j
    · rw [show (((0 : Nat) : Int)) = 0 by rfl]
      clear hOwX
      go_wp2_with (fail)
      go_quiet (skip)
      rename Nat => nq
      obtain ⟨wq, hwq⟩ : ∃ W, wo.drewN nq = W := ⟨_, rfl⟩
      have hT : Upd [] wo wq := by rw [← hwq]; exact (Upd.refl _ _).drewN nq
      rw [hwq]
      have hhq := hT.heap HHQ.out (by simp)
      have k5q := hT.heap HK5q.out (by simp)
      have hOq := HOW.out.upd0 hT
      have hVq := HV.out.trans (Upd.of0 hT)
      have HPk : Hid (Peaks (S.take 0 ++ [t]) (l ++ [x])) := HG.out.done (fun s hs => by simp at hs)
      have HOL : Hid ((S.take 0).length ≤ 65536) := by show (S.take 0).length ≤ 65536; simp
      clear hT hwq
      have hsPt : (Tryd.prog.info? 72).map (·.size) = some (peakC t).toArray.size := by rw [size_peak]; simp [hplt]
      have hS9 : ∀ W, Upd (bt :: (Value.slice A K cap).ownBlock.toList) wq W → ∃ t' fr, W.heap[b5]? = some (.cells (peakC t).toArray t' fr) := fun W hW => ⟨_, _, hW.heap k5q (fun hm => by
        rcases List.mem_cons.1 hm with hm | hm
        · have := HBT.out; omega
        · have := HO5B.out b5 (by simpa using hm); omega)⟩
      have HS9 := Lib.hid hS9
      clear hS9
      go_upto_region 9 with (fail)
      refine wp_region_orders [0, 1, 2, 3, 5] (.step 4 (.step 6 (.step 7 (.step 8 (.step 9 (.step 10 .none .none) .none) .none) .none) .none) (.step 6 (.step 4 (.step 7 (.step 8 (.step 9 (.step 10 .none .none) .none) .none) .none) .none) .none)) (Upd (bt :: (Value.slice A K cap).ownBlock.toList) wq) (by kernel_rfl) (by kernel_rfl) ((Upd.refl _ _).drew) ?_
      refine takeO_cons _ (.pointer (some ⟨bt, 0, none⟩)) rfl (by kernel_rfl) (yields_move (by kernel_rfl)) ?_
      refine takeO_cons _ (.pointer (some ⟨bt, 0, none⟩)) rfl (by kernel_rfl) (yields_move (by kernel_rfl)) ?_
      refine takeO_cons _ (.pointer (some ⟨bt, 0, none⟩)) rfl (by kernel_rfl) (fun w _ => by kernel_rfl) ?_
      refine takeO_cons _ (.pointer (some ⟨bt, 0, none⟩)) rfl (by kernel_rfl) (fun w _ => by kernel_rfl) ?_
      refine takeO_cons _ (.agg (peakC t).toArray) rfl (by kernel_rfl) (yields_row (by kernel_rfl) HS9.out Tryd.underlying72 rfl hsPt) ?_
      refine takeO_nil (by simp [Ord.first]) ?_
      refine ordP_step _ (by simp only [List.getElem?_toArray, List.getElem?_cons_succ, List.getElem?_cons_zero]; rfl) ?_ ?_
      have hcq : wq.drew.cell? ⟨bt, 0, none⟩ = some (.slice A 0 cap) := by rw [cell_of_row wq.drew _ _ _ _ _ hhq]; rfl
      go_wp2_with (fail)
      clear hcq
      refine ord_more (by simp [Ord.first]) (Upd.refl _ _).drew ?_
      refine ordP_step _ (by simp only [List.getElem?_toArray, List.getElem?_cons_succ, List.getElem?_cons_zero]; rfl) ?_ ordP_none
      with_reducible refine bsK rfl hplt (by with_unfolding_all exact rfl) ?_
      intro g9 w6 hg9 k6 hU6
      go_wp2_with (fail)
      have hT6 := (Upd.refl (bt :: (Value.slice A K cap).ownBlock.toList) wq).drew.trans (Upd.of0 hU6)
      refine ord_more (by simp [Ord.first]) hT6 ?_
      have hW6 := (Upd.refl [] wq).drew.trans hU6
      have hO6 := hOq.upd0 hW6
      have hh6 := hW6.heap hhq (by simp)
      have hb6 : bt + 1 ≤ w6.heap.size := by have := hW6.size; have := hVq.size; have := HBT.out; omega
      refine ordP_step _ (by simp only [List.getElem?_toArray, List.getElem?_cons_succ, List.getElem?_cons_zero]; rfl) ?_ ordP_none
      with_reducible refine appendK (by with_unfolding_all exact rfl) (by with_unfolding_all exact rfl) hO6 k6 hRt (by have := HOL.out; omega) hb6 ?_
      intro v7 w7 hO7 hU7 hblk7
      rw [own_eq A 0 K cap] at hU7 hblk7
      obtain ⟨A7, cap7, e7⟩ := hO7.isSlice
      have hh7 := hU7.heap hh6 (fun hm => by have := (hO6.lt bt (by rw [own_eq A 0 K cap]; simpa using hm)).1; omega)
      have hT7 := hT6.trans' hU7 (fun i hm _ => List.mem_cons_of_mem _ hm)
      have hv7c : v7.cells = #[v7] := by rw [e7]; rfl
      have hv7o : v7.oneCell' = true := by rw [e7]; rfl
      clear e7
      go_wp2_with (fail)
      refine ord_more (by simp [Ord.first]) hT7 ?_
      refine ordP_step _ (by simp only [List.getElem?_toArray, List.getElem?_cons_succ, List.getElem?_cons_zero]; rfl) ?_ ordP_none
      go_wp2_with (fail)
      refine ord_more (by simp [Ord.first]) hT7 ?_
      refine ordP_step _ (by simp only [List.getElem?_toArray, List.getElem?_cons_succ, List.getElem?_cons_zero]; rfl) ?_ ordP_none
      go_wp2_with (fail)
      refine ord_more (by simp [Ord.first]) hT7 ?_
      refine ordP_step _ (by simp only [List.getElem?_toArray, List.getElem?_cons_succ, List.getElem?_cons_zero]; rfl) ?_ ordP_none
      with_reducible refine arm_store_at (by with_unfolding_all exact rfl) (by with_unfolding_all exact rfl) hh7 (by simp) hv7c size_peaks hv7o ?_
      intro w8 hh8 hX8 hz8
      change w8.heap[bt]? = some (.cells #[v7, .int .i64 N] 69 (0, 0)) at hh8
      have hT8 := hT7.trans' hX8 (fun i hm _ => by rw [List.mem_singleton.1 hm]; exact List.mem_cons_self)
      go_wp2_with (fail)
      refine ord_last hT8 ?_
      show Exit.then _ _ Exit.normal _ _
      have hO8 := hO7.upd hX8 (fun k hk hm => by have := (hO7.lt k hk).1; simp at hm; omega)
      have hc8 : w8.cell? ⟨bt, 1, none⟩ = some (.int .i64 N) := by rw [cell_of_row _ _ _ _ _ _ hh8]; rfl
      have hB8 : v7.ownBlock = (Value.slice A K cap).ownBlock ∨ ∃ j, v7.ownBlock = some j ∧ w.heap.size ≤ j := by
        rcases hblk7 with h | h
        · exact .inl h
        · exact .inr ⟨_, h, by have := hW6.size; have := hVq.size; omega⟩
      have hV8 : Upd (bt :: (Value.slice A K cap).ownBlock.toList) w w8 := (hVq.mono (fun i hm _ => by rw [List.mem_singleton.1 hm]; exact List.mem_cons_self)).trans hT8
      have HV8 := Lib.hid hV8
      have HB8 := Lib.hid hB8
      have HO8 := Lib.hid hO8
      have HH8 := Lib.hid hh8
      clear hV8 hB8 hO8 hblk7 hO7 hU7 hO6 hh6 hh7 hT7 hX8 hT8 hz8 k6 hU6 hT6 hW6 hv7c hv7o hg9
      clear hsPt hplt hRt hk kq hhq k5q
      go_upto_region 10 with (fail)
      clear n1 n2 n3
      go_wp2_with (with_reducible refine arm_store_at (by with_unfolding_all exact rfl) (by with_unfolding_all exact rfl) hh8 (by simp) (by with_unfolding_all exact rfl) size_int1 (by with_unfolding_all exact rfl) ?_)
      intro w9 hh9 hX9 hz9
      change w9.heap[bt]? = some (.cells #[v7, .int .i64 ((N : Int) + 1)] 69 (0, 0)) at hh9
      go_wp2_with (fail)
      go_ret
      refine ⟨rfl, v7, ⟨?_, _, HPk.out, ?_, ?_⟩, HB8.out, ?_⟩
      · intro y hy
        rcases List.mem_append.1 hy with hy | hy
        · exact HLL.out y hy
        · rw [List.mem_singleton.1 hy]; exact HX.out
      · rw [hh9, List.length_append, HN.out]
        simp
      · exact HO8.out.upd hX9 (fun k hk hm => by have := (HO8.out.lt k hk).1; simp at hm; omega)
      · exact HV8.out.trans' hX9 (fun i hm _ => by rw [List.mem_singleton.1 hm]; exact List.mem_cons_self)
      refine ordP_step _ (by simp only [List.getElem?_toArray, List.getElem?_cons_succ, List.getElem?_cons_zero]; rfl) ?_ ordP_none
      with_reducible refine bsK rfl hplt (by with_unfolding_all exact rfl) ?_
      intro g9 w6 hg9 k6 hU6
      go_wp2_with (fail)
      have hT6 := (Upd.refl (bt :: (Value.slice A K cap).ownBlock.toList) wq).drew.trans (Upd.of0 hU6)
      refine ord_more (by simp [Ord.first]) hT6 ?_
      have hW6 := (Upd.refl [] wq).drew.trans hU6
      have hh6' := hW6.heap hhq (by simp)
      refine ordP_step _ (by simp only [List.getElem?_toArray, List.getElem?_cons_succ, List.getElem?_cons_zero]; rfl) ?_ ordP_none
      have hcq : w6.cell? ⟨bt, 0, none⟩ = some (.slice A 0 cap) := by rw [cell_of_row w6 _ _ _ _ _ hh6']; rfl
      go_wp2_with (fail)
      clear hcq
      refine ord_more (by simp [Ord.first]) hT6 ?_
      clear hh6'
      have hO6 := hOq.upd0 hW6
      have hh6 := hW6.heap hhq (by simp)
      have hb6 : bt + 1 ≤ w6.heap.size := by have := hW6.size; have := hVq.size; have := HBT.out; omega
      refine ordP_step _ (by simp only [List.getElem?_toArray, List.getElem?_cons_succ, List.getElem?_cons_zero]; rfl) ?_ ordP_none
      with_reducible refine appendK (by with_unfolding_all exact rfl) (by with_unfolding_all exact rfl) hO6 k6 hRt (by have := HOL.out; omega) hb6 ?_
      intro v7 w7 hO7 hU7 hblk7
      rw [own_eq A 0 K cap] at hU7 hblk7
      obtain ⟨A7, cap7, e7⟩ := hO7.isSlice
      have hh7 := hU7.heap hh6 (fun hm => by have := (hO6.lt bt (by rw [own_eq A 0 K cap]; simpa using hm)).1; omega)
      have hT7 := hT6.trans' hU7 (fun i hm _ => List.mem_cons_of_mem _ hm)
      have hv7c : v7.cells = #[v7] := by rw [e7]; rfl
      have hv7o : v7.oneCell' = true := by rw [e7]; rfl
      clear e7
      go_wp2_with (fail)
      refine ord_more (by simp [Ord.first]) hT7 ?_
      refine ordP_step _ (by simp only [List.getElem?_toArray, List.getElem?_cons_succ, List.getElem?_cons_zero]; rfl) ?_ ordP_none
      go_wp2_with (fail)
      refine ord_more (by simp [Ord.first]) hT7 ?_
      refine ordP_step _ (by simp only [List.getElem?_toArray, List.getElem?_cons_succ, List.getElem?_cons_zero]; rfl) ?_ ordP_none
      go_wp2_with (fail)
      refine ord_more (by simp [Ord.first]) hT7 ?_
      refine ordP_step _ (by simp only [List.getElem?_toArray, List.getElem?_cons_succ, List.getElem?_cons_zero]; rfl) ?_ ordP_none
      with_reducible refine arm_store_at (by with_unfolding_all exact rfl) (by with_unfolding_all exact rfl) hh7 (by simp) hv7c size_peaks hv7o ?_
      intro w8 hh8 hX8 hz8
      change w8.heap[bt]? = some (.cells #[v7, .int .i64 N] 69 (0, 0)) at hh8
      have hT8 := hT7.trans' hX8 (fun i hm _ => by rw [List.mem_singleton.1 hm]; exact List.mem_cons_self)
      go_wp2_with (fail)
      refine ord_last hT8 ?_
      show Exit.then _ _ Exit.normal _ _
      have hO8 := hO7.upd hX8 (fun k hk hm => by have := (hO7.lt k hk).1; simp at hm; omega)
      have hc8 : w8.cell? ⟨bt, 1, none⟩ = some (.int .i64 N) := by rw [cell_of_row _ _ _ _ _ _ hh8]; rfl
      have hB8 : v7.ownBlock = (Value.slice A K cap).ownBlock ∨ ∃ j, v7.ownBlock = some j ∧ w.heap.size ≤ j := by
        rcases hblk7 with h | h
        · exact .inl h
        · exact .inr ⟨_, h, by have := hW6.size; have := hVq.size; omega⟩
      have hV8 : Upd (bt :: (Value.slice A K cap).ownBlock.toList) w w8 := (hVq.mono (fun i hm _ => by rw [List.mem_singleton.1 hm]; exact List.mem_cons_self)).trans hT8
      have HV8 := Lib.hid hV8
      have HB8 := Lib.hid hB8
      have HO8 := Lib.hid hO8
      have HH8 := Lib.hid hh8
      clear hV8 hB8 hO8 hblk7 hO7 hU7 hO6 hh6 hh7 hT7 hX8 hT8 hz8 k6 hU6 hT6 hW6 hv7c hv7o hg9
      clear hsPt hplt hRt hk kq hhq k5q
      go_upto_region 10 with (fail)
      clear n1 n2 n3
      go_wp2_with (with_reducible refine arm_store_at (by with_unfolding_all exact rfl) (by with_unfolding_all exact rfl) hh8 (by simp) (by with_unfolding_all exact rfl) size_int1 (by with_unfolding_all exact rfl) ?_)
      intro w9 hh9 hX9 hz9
      change w9.heap[bt]? = some (.cells #[v7, .int .i64 ((N : Int) + 1)] 69 (0, 0)) at hh9
      go_wp2_with (fail)
      go_ret
      refine ⟨rfl, v7, ⟨?_, _, HPk.out, ?_, ?_⟩, HB8.out, ?_⟩
      · intro y hy
        rcases List.mem_append.1 hy with hy | hy
        · exact HLL.out y hy
        · rw [List.mem_singleton.1 hy]; exact HX.out
      · rw [hh9, List.length_append, HN.out]
        simp
      · exact HO8.out.upd hX9 (fun k hk hm => by have := (HO8.out.lt k hk).1; simp at hm; omega)
      · exact HV8.out.trans' hX9 (fun i hm _ => by rw [List.mem_singleton.1 hm]; exact List.mem_cons_self)
    · have hkS : (S.take (j + 1)).length = j + 1 := by rw [List.length_take, HK.out]; omega
      obtain ⟨g, cap', eA, hgb1, hgl1, hkc, _⟩ := hOwX.at (by rw [hkS]; omega)
      injection eA with eA eA2 eA3
      subst eA
      rw [← eA3] at hkc
      have hjS : j < S.length := by rw [HK.out]; omega
      have hjT : j < (S.take (j + 1)).length := by omega
      have htk : S.take (j + 1) = S.take j ++ [S[j]] := List.take_succ_eq_append_getElem hjS
      have hel := hOwX.elem j hjT
      rw [List.getElem_take] at hel
      have hRs := HOS.out _ (List.getElem_mem hjS)
      have hgx := HG.out
      rw [htk] at hgx
      obtain ⟨s, hs⟩ : ∃ s, S[j] = s := ⟨_, rfl⟩
      rw [hs] at hel hRs hgx htk
      obtain ⟨k, hkk⟩ : ∃ k, j + 1 = k := ⟨_, rfl⟩
      have hcap : k ≤ cap := by rw [← hkk]; rw [hkS] at hkc; exact hkc
      rw [hkk] at hk HG HHQ HOW htk kq hkS ⊢
      have hk1 : (k : Int) - 1 = (j : Int) := by omega
      have hkp : (k : Int) > 0 := by omega
      have hkd : decide ((k : Int) > 0) = true := by simp; omega
      have hkn : decide (0 < k) = true := by simp; omega
      have hk0 : 0 < k := by omega
      have hkj : j < k := by omega
      have hkj' : (j : Int) < (k : Int) := by omega
      have hTL : t.length ≤ 65536 := by
        have h1 := congrArg List.length HG.out.all
        have h2 := HLN.out
        have h3 := HN.out
        simp only [List.length_append, List.length_singleton, h3] at h1
        omega
      obtain ⟨a, ha⟩ : ∃ a, s.length = a := ⟨_, rfl⟩
      obtain ⟨c, hc⟩ : ∃ a, t.length = a := ⟨_, rfl⟩
      rw [ha] at hel
      rw [hc] at hTL
      have hcT : wo.cell? ⟨bt, 0, none⟩ = some (.slice (some ⟨g, 0, none⟩) k cap) := by rw [cell_of_row wo _ _ _ _ _ HHQ.out]; rfl
      have hcP : wo.cell? ⟨b5, 0, none⟩ = some (.int .i64 c) := by rw [cell_of_row wo _ _ _ _ _ HK5q.out, ← hc]; rfl
      have hcS := hel.1
      have HRG := Lib.hid hel.2
      have HGX := Lib.hid hgx
      have HTK := Lib.hid htk
      have HA := Lib.hid ha
      have HC := Lib.hid hc
      have HRS := Lib.hid hRs
      have HRT := Lib.hid hRt
      have HCAP := Lib.hid hcap
      clear hOwX hel hgx htk ha hc hs eA2 eA3 hgb1 hgl1 hkc hjT hRs hkS hkk hcap
      by_cases hac : a = c
      · subst hac
        have hm := HGX.out.merge (by rw [HA.out, HC.out])
        have hb7 := built_peak (s ++ t) (nodeH (rootOf s) (rootOf t)) (2 * (a : Int)) (by rw [List.length_append, HA.out, HC.out]; omega) hm.2.symm (by rw [hm.2]; exact nodeH_length _ _)
        have hRst : (rootOf (s ++ t)).length = 32 := by rw [hm.2]; exact nodeH_length _ _
        have hpl2 : (peakC (s ++ t)).length = 33 := peakC_length hRst
        have hNR : nodeH (rootOf s) (rootOf t) = rootOf (s ++ t) := hm.2.symm
        have HM1 := Lib.hid hm.1
        have HRST := Lib.hid hRst
        have a65 : (a : Int) ≤ 65536 := by omega
        go_wp2_with (fail)
        go_quiet (skip)
        rename Nat => nq
        obtain ⟨wq, hwq⟩ : ∃ W, wo.drewN nq = W := ⟨_, rfl⟩
        have hT : Upd [] wo wq := by rw [← hwq]; exact (Upd.refl _ _).drewN nq
        rw [hwq]
        have hhq := hT.heap HHQ.out (by simp)
        have k5q := hT.heap HK5q.out (by simp)
        have hOq := HOW.out.upd0 hT
        have hVq := HV.out.trans (Upd.of0 hT)
        have hUq : Upd [bt, b5] w5 wq := HU.out.trans (Upd.of0 hT)
        have hrq : wq.rangeAt g (j * 33 + 1) ((rootOf s).map U8) := fun i v hi => hT.cell (HRG.out i v hi) (by simp)
        have hrp := range_of_row k5q 1 ((rootOf t).map U8) ⟨[.int .i64 t.length], [], by simp [peakC], rfl⟩
        have HN7 : Hid (∀ W, Upd [] wq W → Calls Tryd.prog 20 #[.agg ((rootOf s).map U8).toArray, .agg ((rootOf t).map U8).toArray] W fun e w' => e = .returned (.agg ((nodeH (rootOf s) (rootOf t)).map U8).toArray) ∧ Upd [] W w') := fun W hW => HND.out W _ _ HRS.out HRT.out (hVq.trans (Upd.of0 hW))
        have hsl1 := szlist HRS.out
        have hsl2 := szlist HRT.out
        have HCT : Hid (∀ W, Upd [] wq W → W.cell? ⟨bt, 0, none⟩ = some (.slice (some ⟨g, 0, none⟩) k cap)) := fun W hW => by rw [cell_of_row W _ _ _ _ _ (hW.heap hhq (by simp))]; rfl
        have HCQ : Hid (∀ W, Upd [] wq W → W.cell? ⟨b5, 0, none⟩ = some (.int .i64 a)) := fun W hW => by rw [cell_of_row W _ _ _ _ _ (hW.heap k5q (by simp)), ← HC.out]; rfl
        have hb7' := hb7
        rw [hNR] at HN7 hb7'
        obtain ⟨cN, hcN⟩ : ∃ c, ((rootOf (s ++ t)).map U8).toArray = c := ⟨_, rfl⟩
        obtain ⟨l1, hl1⟩ : ∃ c, (rootOf s).map U8 = c := ⟨_, rfl⟩
        obtain ⟨l2, hl2⟩ : ∃ c, (rootOf t).map U8 = c := ⟨_, rfl⟩
        rw [hcN] at HN7 hb7'
        rw [hl1] at HN7 hrq hsl1
        rw [hl2] at HN7 hrp hsl2
        have HR1 : Hid (∀ W, Upd [] wq W → W.rangeAt g (j * 33 + 1) l1) := fun W hW i v hi => hW.cell (hrq i v hi) (by simp)
        have HR2 : Hid (∀ W, Upd [] wq W → W.rangeAt b5 1 l2) := fun W hW i v hi => hW.cell (hrp i v hi) (by simp)
        have hsP2 : (Tryd.prog.info? 72).map (·.size) = some (peakC (s ++ t)).toArray.size := by rw [size_peak]; simp [hpl2]
        have hoP2 : (peakC t).toArray.size = (peakC (s ++ t)).toArray.size := by simp [hplt, hpl2]
        have haP2 := peakC_all (s ++ t)
        obtain ⟨cQ, hcQ⟩ : ∃ c, (peakC (s ++ t)).toArray = c := ⟨_, rfl⟩
        rw [hcQ] at hsP2 hoP2 haP2 hb7'
        have HCQ2 := Lib.hid hcQ
        have HB7 := Lib.hid hb7'
        have HHQ2 := Lib.hid hhq
        have HK5q2 := Lib.hid k5q
        have HOq := Lib.hid hOq
        have HVq := Lib.hid hVq
        have HUq := Lib.hid hUq
        clear hm hb7 hb7' hRst hNR hT hwq hrq hrp hcN hl1 hl2 hcQ hcT hcP hcS hhq k5q hOq hVq hUq hpl2 n1 n2 n3
        go_upto_region 7 with (fail)
        refine wp_region_quiet_tail 16 (Upd [] wq) (by kernel_rfl) (by kernel_rfl) (Upd.refl _ _).drew ?_
        simp only [List.take_succ_cons, List.take_zero, List.drop_succ_cons, List.drop_zero]
        repeat (first
          | (refine wpQuiet_valK rfl (quiet_of_yields (yields_cell (p := ⟨bt, 0, none⟩) rfl HCT.out Tryd.underlying67 rfl)) (fun K hK => ?_); go_simp; refine hK _ ?_; clear hK K)
          | (refine wpQuiet_valK rfl (quiet_of_yields (yields_cell (p := ⟨b5, 0, none⟩) rfl HCQ.out Tryd.underlying3 rfl)) (fun K hK => ?_); go_simp; refine hK _ ?_; clear hK K)
          | (refine wpQuiet_valK rfl (quiet_load_mid 27 _ rfl g (j * 33 + 1) rfl _ HR1.out Tryd.underlying27 rfl hsl1) (fun K hK => ?_); go_simp; refine hK _ ?_; clear hK K)
          | (refine wpQuiet_valK rfl (quiet_load_mid 27 _ rfl b5 1 rfl _ HR2.out Tryd.underlying27 rfl hsl2) (fun K hK => ?_); go_simp; refine hK _ ?_; clear hK K)
          | (refine wpQuiet_valK rfl (quiet_build2 72 (.tmp 39) (.tmp 51) rfl (v0 := .int .i64 (2 * (a : Int))) (v1 := .agg cN) rfl rfl HB7.out) (fun K hK => ?_); go_simp; refine hK _ ?_; clear hK K)
          | go_big_quiet_step ((intro hw2; first
              | rfl
              | ((with_reducible refine (HN7.out _ hw2).mono ?_); exact fun e w' h => ⟨h.1, hw2.trans h.2⟩)
              )))
        refine wpQuiet_nil ?_
        intro w15 hU15
        have k15 := hU15.heap HK5q2.out (by simp)
        have hh15 := hU15.heap HHQ2.out (by simp)
        go_wp2_with (with_reducible refine arm_store (by with_unfolding_all exact rfl) (by with_unfolding_all exact rfl) k15 hsP2 hoP2 haP2 ?_)
        intro w16 k16 hX16 hz16
        have hbt5 : bt ≠ b5 := by have := HBT.out; omega
        have hh16 := hX16.heap hh15 (by simpa using hbt5)
        have hO16 := (HOq.out.upd0 hU15).upd hX16 (fun b hb hm => by have := HO5B.out b (by rw [own_eq (some ⟨g, 0, none⟩) K k cap]; exact hb); simp at hm; omega)
        have hT16 : Upd [bt, b5] w5 w16 := (HUq.out.trans (Upd.of0 hU15)).trans' hX16 (fun i hm _ => by simp at hm ⊢; exact .inr hm)
        have hc16 : w16.cell? ⟨bt, 0, none⟩ = some (.slice (some ⟨g, 0, none⟩) k cap) := by rw [cell_of_row w16 _ _ _ _ _ hh16]; rfl
        have hcut := cut_peaks g k cap j (by omega) HCAP.out
        have HCUT := Lib.hid hcut
        have HO16 := Lib.hid hO16
        have HT16 := Lib.hid hT16
        have HK16 : Hid (w16.heap[b5]? = some (.cells (peakC (s ++ t)).toArray 72 (0, 0))) := by
          show w16.heap[b5]? = _
          rw [HCQ2.out]; exact k16
        clear k15 hh15 hU15 hX16 hz16 hO16 hT16 k16 hcut
        go_wp2_with (first
          | (with_reducible refine arm_slice (by with_unfolding_all exact rfl) (by with_unfolding_all exact rfl) (by with_unfolding_all exact rfl) (by with_unfolding_all exact rfl) HCUT.out ?_)
          | (with_reducible refine arm_store_at (by with_unfolding_all exact rfl) (by with_unfolding_all exact rfl) hh16 (by simp) (by with_unfolding_all exact rfl) size_peaks (by with_unfolding_all exact rfl) ?_))
        intro w17 hh17 hX17 hz17
        change w17.heap[bt]? = some (.cells #[.slice (some ⟨g, 0, none⟩) j cap, .int .i64 N] 69 (0, 0)) at hh17
        have hO17 := (HO16.out.cut j (by rw [List.length_take, HK.out]; omega)).upd hX17 (fun b hb hm => by have h1 := (HO16.out.lt b (by rw [own_eq (some ⟨g, 0, none⟩) k j cap]; exact hb)).1; simp at hm; omega)
        have e17 : (S.take k).take j = S.take j := by rw [List.take_take, Nat.min_eq_left (by omega)]
        rw [e17] at hO17
        have hK17 := hX17.heap HK16.out (by simpa using hbt5.symm)
        have hT17 : Upd [bt, b5] w5 w17 := HT16.out.trans' hX17 (fun i hm _ => by simp at hm ⊢; exact .inl hm)
        have HO17 := Lib.hid hO17
        have HK17 := Lib.hid hK17
        have HT17 := Lib.hid hT17
        have HH17 := Lib.hid hh17
        clear hO17 hK17 hT17 hh17 hX17 hz17 hh16 hc16 e17
        go_wp2_with (fail)
        go_roundw
        case rel => exact ⟨j, s ++ t, by omega, by go_num, HM1.out, HRST.out, HH17.out, HK17.out, HO17.out, HT17.out⟩
        case measure => first | (simp [intOf]; done) | (simp [intOf]; omega)
      · have q1 : ((a : Int) == (c : Int)) = false := by simp; omega
        have q2 : (a == c) = false := by simpa using hac
        have q3 : decide ((a : Int) = (c : Int)) = false := by simp; omega
        have q4 : decide (a = c) = false := by simpa using hac
        go_wp2_with (fail)
        go_quiet (skip)
        rename Nat => nq
        obtain ⟨wq, hwq⟩ : ∃ W, wo.drewN nq = W := ⟨_, rfl⟩
        have hT : Upd [] wo wq := by rw [← hwq]; exact (Upd.refl _ _).drewN nq
        rw [hwq]
        have hhq := hT.heap HHQ.out (by simp)
        have k5q := hT.heap HK5q.out (by simp)
        have hOq := HOW.out.upd0 hT
        have hVq := HV.out.trans (Upd.of0 hT)
        have HPk : Hid (Peaks (S.take k ++ [t]) (l ++ [x])) := HG.out.done (fun s' hs' => by
          rw [HTK.out, List.getLast?_concat] at hs'
          injection hs' with hs'
          rw [← hs', HA.out, HC.out]; exact hac)
        have HOL : Hid ((S.take k).length ≤ 65536) := by show (S.take k).length ≤ 65536; rw [List.length_take]; omega
        clear hT hwq q1 q2 q3 q4 hcT hcP hcS hac
        have hsPt : (Tryd.prog.info? 72).map (·.size) = some (peakC t).toArray.size := by rw [size_peak]; simp [hplt]
        have hS9 : ∀ W, Upd (bt :: (Value.slice (some ⟨g, 0, none⟩) K cap).ownBlock.toList) wq W → ∃ t' fr, W.heap[b5]? = some (.cells (peakC t).toArray t' fr) := fun W hW => ⟨_, _, hW.heap k5q (fun hm => by
          rcases List.mem_cons.1 hm with hm | hm
          · have := HBT.out; omega
          · have := HO5B.out b5 (by simpa using hm); omega)⟩
        have HS9 := Lib.hid hS9
        clear hS9
        go_upto_region 9 with (fail)
        refine wp_region_orders [0, 1, 2, 3, 5] (.step 4 (.step 6 (.step 7 (.step 8 (.step 9 (.step 10 .none .none) .none) .none) .none) .none) (.step 6 (.step 4 (.step 7 (.step 8 (.step 9 (.step 10 .none .none) .none) .none) .none) .none) .none)) (Upd (bt :: (Value.slice (some ⟨g, 0, none⟩) K cap).ownBlock.toList) wq) (by kernel_rfl) (by kernel_rfl) ((Upd.refl _ _).drew) ?_
        refine takeO_cons _ (.pointer (some ⟨bt, 0, none⟩)) rfl (by kernel_rfl) (yields_move (by kernel_rfl)) ?_
        refine takeO_cons _ (.pointer (some ⟨bt, 0, none⟩)) rfl (by kernel_rfl) (yields_move (by kernel_rfl)) ?_
        refine takeO_cons _ (.pointer (some ⟨bt, 0, none⟩)) rfl (by kernel_rfl) (fun w _ => by kernel_rfl) ?_
        refine takeO_cons _ (.pointer (some ⟨bt, 0, none⟩)) rfl (by kernel_rfl) (fun w _ => by kernel_rfl) ?_
        refine takeO_cons _ (.agg (peakC t).toArray) rfl (by kernel_rfl) (yields_row (by kernel_rfl) HS9.out Tryd.underlying72 rfl hsPt) ?_
        refine takeO_nil (by simp [Ord.first]) ?_
        refine ordP_step _ (by simp only [List.getElem?_toArray, List.getElem?_cons_succ, List.getElem?_cons_zero]; rfl) ?_ ?_
        have hcq : wq.drew.cell? ⟨bt, 0, none⟩ = some (.slice (some ⟨g, 0, none⟩) k cap) := by rw [cell_of_row wq.drew _ _ _ _ _ hhq]; rfl
        go_wp2_with (fail)
        clear hcq
        refine ord_more (by simp [Ord.first]) (Upd.refl _ _).drew ?_
        refine ordP_step _ (by simp only [List.getElem?_toArray, List.getElem?_cons_succ, List.getElem?_cons_zero]; rfl) ?_ ordP_none
        with_reducible refine bsK rfl hplt (by with_unfolding_all exact rfl) ?_
        intro g9 w6 hg9 k6 hU6
        go_wp2_with (fail)
        have hT6 := (Upd.refl (bt :: (Value.slice (some ⟨g, 0, none⟩) K cap).ownBlock.toList) wq).drew.trans (Upd.of0 hU6)
        refine ord_more (by simp [Ord.first]) hT6 ?_
        have hW6 := (Upd.refl [] wq).drew.trans hU6
        have hO6 := hOq.upd0 hW6
        have hh6 := hW6.heap hhq (by simp)
        have hb6 : bt + 1 ≤ w6.heap.size := by have := hW6.size; have := hVq.size; have := HBT.out; omega
        refine ordP_step _ (by simp only [List.getElem?_toArray, List.getElem?_cons_succ, List.getElem?_cons_zero]; rfl) ?_ ordP_none
        with_reducible refine appendK (by with_unfolding_all exact rfl) (by with_unfolding_all exact rfl) hO6 k6 hRt (by have := HOL.out; omega) hb6 ?_
        intro v7 w7 hO7 hU7 hblk7
        rw [own_eq (some ⟨g, 0, none⟩) k K cap] at hU7 hblk7
        obtain ⟨A7, cap7, e7⟩ := hO7.isSlice
        have hh7 := hU7.heap hh6 (fun hm => by have := (hO6.lt bt (by rw [own_eq (some ⟨g, 0, none⟩) k K cap]; simpa using hm)).1; omega)
        have hT7 := hT6.trans' hU7 (fun i hm _ => List.mem_cons_of_mem _ hm)
        have hv7c : v7.cells = #[v7] := by rw [e7]; rfl
        have hv7o : v7.oneCell' = true := by rw [e7]; rfl
        clear e7
        go_wp2_with (fail)
        refine ord_more (by simp [Ord.first]) hT7 ?_
        refine ordP_step _ (by simp only [List.getElem?_toArray, List.getElem?_cons_succ, List.getElem?_cons_zero]; rfl) ?_ ordP_none
        go_wp2_with (fail)
        refine ord_more (by simp [Ord.first]) hT7 ?_
        refine ordP_step _ (by simp only [List.getElem?_toArray, List.getElem?_cons_succ, List.getElem?_cons_zero]; rfl) ?_ ordP_none
        go_wp2_with (fail)
        refine ord_more (by simp [Ord.first]) hT7 ?_
        refine ordP_step _ (by simp only [List.getElem?_toArray, List.getElem?_cons_succ, List.getElem?_cons_zero]; rfl) ?_ ordP_none
        with_reducible refine arm_store_at (by with_unfolding_all exact rfl) (by with_unfolding_all exact rfl) hh7 (by simp) hv7c size_peaks hv7o ?_
        intro w8 hh8 hX8 hz8
        change w8.heap[bt]? = some (.cells #[v7, .int .i64 N] 69 (0, 0)) at hh8
        have hT8 := hT7.trans' hX8 (fun i hm _ => by rw [List.mem_singleton.1 hm]; exact List.mem_cons_self)
        go_wp2_with (fail)
        refine ord_last hT8 ?_
        show Exit.then _ _ Exit.normal _ _
        have hO8 := hO7.upd hX8 (fun k hk hm => by have := (hO7.lt k hk).1; simp at hm; omega)
        have hc8 : w8.cell? ⟨bt, 1, none⟩ = some (.int .i64 N) := by rw [cell_of_row _ _ _ _ _ _ hh8]; rfl
        have hB8 : v7.ownBlock = (Value.slice (some ⟨g, 0, none⟩) K cap).ownBlock ∨ ∃ j, v7.ownBlock = some j ∧ w.heap.size ≤ j := by
          rcases hblk7 with h | h
          · exact .inl h
          · exact .inr ⟨_, h, by have := hW6.size; have := hVq.size; omega⟩
        have hV8 : Upd (bt :: (Value.slice (some ⟨g, 0, none⟩) K cap).ownBlock.toList) w w8 := (hVq.mono (fun i hm _ => by rw [List.mem_singleton.1 hm]; exact List.mem_cons_self)).trans hT8
        have HV8 := Lib.hid hV8
        have HB8 := Lib.hid hB8
        have HO8 := Lib.hid hO8
        have HH8 := Lib.hid hh8
        clear hV8 hB8 hO8 hblk7 hO7 hU7 hO6 hh6 hh7 hT7 hX8 hT8 hz8 k6 hU6 hT6 hW6 hv7c hv7o hg9
        clear hsPt hplt hRt hk kq hhq k5q
        go_upto_region 10 with (fail)
        clear n1 n2 n3
        go_wp2_with (with_reducible refine arm_store_at (by with_unfolding_all exact rfl) (by with_unfolding_all exact rfl) hh8 (by simp) (by with_unfolding_all exact rfl) size_int1 (by with_unfolding_all exact rfl) ?_)
        intro w9 hh9 hX9 hz9
        change w9.heap[bt]? = some (.cells #[v7, .int .i64 ((N : Int) + 1)] 69 (0, 0)) at hh9
        go_wp2_with (fail)
        go_ret
        refine ⟨rfl, v7, ⟨?_, _, HPk.out, ?_, ?_⟩, HB8.out, ?_⟩
        · intro y hy
          rcases List.mem_append.1 hy with hy | hy
          · exact HLL.out y hy
          · rw [List.mem_singleton.1 hy]; exact HX.out
        · rw [hh9, List.length_append, HN.out]
          simp
        · exact HO8.out.upd hX9 (fun k hk hm => by have := (HO8.out.lt k hk).1; simp at hm; omega)
        · exact HV8.out.trans' hX9 (fun i hm _ => by rw [List.mem_singleton.1 hm]; exact List.mem_cons_self)
        refine ordP_step _ (by simp only [List.getElem?_toArray, List.getElem?_cons_succ, List.getElem?_cons_zero]; rfl) ?_ ordP_none
        with_reducible refine bsK rfl hplt (by with_unfolding_all exact rfl) ?_
        intro g9 w6 hg9 k6 hU6
        go_wp2_with (fail)
        have hT6 := (Upd.refl (bt :: (Value.slice (some ⟨g, 0, none⟩) K cap).ownBlock.toList) wq).drew.trans (Upd.of0 hU6)
        refine ord_more (by simp [Ord.first]) hT6 ?_
        have hW6 := (Upd.refl [] wq).drew.trans hU6
        have hh6' := hW6.heap hhq (by simp)
        refine ordP_step _ (by simp only [List.getElem?_toArray, List.getElem?_cons_succ, List.getElem?_cons_zero]; rfl) ?_ ordP_none
        have hcq : w6.cell? ⟨bt, 0, none⟩ = some (.slice (some ⟨g, 0, none⟩) k cap) := by rw [cell_of_row w6 _ _ _ _ _ hh6']; rfl
        go_wp2_with (fail)
        clear hcq
        refine ord_more (by simp [Ord.first]) hT6 ?_
        clear hh6'
        have hO6 := hOq.upd0 hW6
        have hh6 := hW6.heap hhq (by simp)
        have hb6 : bt + 1 ≤ w6.heap.size := by have := hW6.size; have := hVq.size; have := HBT.out; omega
        refine ordP_step _ (by simp only [List.getElem?_toArray, List.getElem?_cons_succ, List.getElem?_cons_zero]; rfl) ?_ ordP_none
        with_reducible refine appendK (by with_unfolding_all exact rfl) (by with_unfolding_all exact rfl) hO6 k6 hRt (by have := HOL.out; omega) hb6 ?_
        intro v7 w7 hO7 hU7 hblk7
        rw [own_eq (some ⟨g, 0, none⟩) k K cap] at hU7 hblk7
        obtain ⟨A7, cap7, e7⟩ := hO7.isSlice
        have hh7 := hU7.heap hh6 (fun hm => by have := (hO6.lt bt (by rw [own_eq (some ⟨g, 0, none⟩) k K cap]; simpa using hm)).1; omega)
        have hT7 := hT6.trans' hU7 (fun i hm _ => List.mem_cons_of_mem _ hm)
        have hv7c : v7.cells = #[v7] := by rw [e7]; rfl
        have hv7o : v7.oneCell' = true := by rw [e7]; rfl
        clear e7
        go_wp2_with (fail)
        refine ord_more (by simp [Ord.first]) hT7 ?_
        refine ordP_step _ (by simp only [List.getElem?_toArray, List.getElem?_cons_succ, List.getElem?_cons_zero]; rfl) ?_ ordP_none
        go_wp2_with (fail)
        refine ord_more (by simp [Ord.first]) hT7 ?_
        refine ordP_step _ (by simp only [List.getElem?_toArray, List.getElem?_cons_succ, List.getElem?_cons_zero]; rfl) ?_ ordP_none
        go_wp2_with (fail)
        refine ord_more (by simp [Ord.first]) hT7 ?_
        refine ordP_step _ (by simp only [List.getElem?_toArray, List.getElem?_cons_succ, List.getElem?_cons_zero]; rfl) ?_ ordP_none
        with_reducible refine arm_store_at (by with_unfolding_all exact rfl) (by with_unfolding_all exact rfl) hh7 (by simp) hv7c size_peaks hv7o ?_
        intro w8 hh8 hX8 hz8
        change w8.heap[bt]? = some (.cells #[v7, .int .i64 N] 69 (0, 0)) at hh8
        have hT8 := hT7.trans' hX8 (fun i hm _ => by rw [List.mem_singleton.1 hm]; exact List.mem_cons_self)
        go_wp2_with (fail)
        refine ord_last hT8 ?_
        show Exit.then _ _ Exit.normal _ _
        have hO8 := hO7.upd hX8 (fun k hk hm => by have := (hO7.lt k hk).1; simp at hm; omega)
        have hc8 : w8.cell? ⟨bt, 1, none⟩ = some (.int .i64 N) := by rw [cell_of_row _ _ _ _ _ _ hh8]; rfl
        have hB8 : v7.ownBlock = (Value.slice (some ⟨g, 0, none⟩) K cap).ownBlock ∨ ∃ j, v7.ownBlock = some j ∧ w.heap.size ≤ j := by
          rcases hblk7 with h | h
          · exact .inl h
          · exact .inr ⟨_, h, by have := hW6.size; have := hVq.size; omega⟩
        have hV8 : Upd (bt :: (Value.slice (some ⟨g, 0, none⟩) K cap).ownBlock.toList) w w8 := (hVq.mono (fun i hm _ => by rw [List.mem_singleton.1 hm]; exact List.mem_cons_self)).trans hT8
        have HV8 := Lib.hid hV8
        have HB8 := Lib.hid hB8
        have HO8 := Lib.hid hO8
        have HH8 := Lib.hid hh8
        clear hV8 hB8 hO8 hblk7 hO7 hU7 hO6 hh6 hh7 hT7 hX8 hT8 hz8 k6 hU6 hT6 hW6 hv7c hv7o hg9
        clear hsPt hplt hRt hk kq hhq k5q
        go_upto_region 10 with (fail)
        clear n1 n2 n3
        go_wp2_with (with_reducible refine arm_store_at (by with_unfolding_all exact rfl) (by with_unfolding_all exact rfl) hh8 (by simp) (by with_unfolding_all exact rfl) size_int1 (by with_unfolding_all exact rfl) ?_)
        intro w9 hh9 hX9 hz9
        change w9.heap[bt]? = some (.cells #[v7, .int .i64 ((N : Int) + 1)] 69 (0, 0)) at hh9
        go_wp2_with (fail)
        go_ret
        refine ⟨rfl, v7, ⟨?_, _, HPk.out, ?_, ?_⟩, HB8.out, ?_⟩
        · intro y hy
          rcases List.mem_append.1 hy with hy | hy
          · exact HLL.out y hy
          · rw [List.mem_singleton.1 hy]; exact HX.out
        · rw [hh9, List.length_append, HN.out]
          simp
        · exact HO8.out.upd hX9 (fun k hk hm => by have := (HO8.out.lt k hk).1; simp at hm; omega)
        · exact HV8.out.trans' hX9 (fun i hm _ => by rw [List.mem_singleton.1 hm]; exact List.mem_cons_self)
end Go.Proofs.YtdfoffheolbokaaDoor
