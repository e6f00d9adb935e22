/-
  A message laid into a bag: the closure of add, lay, add, Put, Double.
-/
import Derived.Test.YtjeddokenpkpnaaBagM
namespace Go.Proofs.Ytjeddokenpkpnaa
open Go Go.RowKit Go.Proofs Go.Maps
theorem heap_ne {w : World} {a b : Nat} {C C' : Array Value} {T T' : TypeId} {fr fr' : Nat × Nat} (h : w.heap[a]? = some (.cells C T fr)) (k : w.heap[b]? = some (.cells C' T' fr')) (hT : T ≠ T') : a ≠ b := by
  rintro rfl
  rw [h] at k
  injection k with k
  injection k with _ k
  exact hT k
theorem rd_ne {w : World} {v : Value} {l : List (BitVec 8)} (h : RdB w v l) {bb bm : Nat} {x : Int} {T : TypeId} {fr : Nat × Nat} (hc : w.heap[bb]? = some (.cells (bagC bm x) T fr)) : 0 < l.length → ∀ k, v.ownBlock = some k → k ∉ [bb] := by
  intro h0 k hk hm
  rw [List.mem_singleton.1 hm] at hk
  obtain ⟨g, p, c, rfl, _, _, hb⟩ := h.at h0
  simp [Value.ownBlock] at hk
  subst hk
  have h1 := hb 0 h0
  rw [cell_of_row _ _ _ _ _ _ hc] at h1
  match p, h1 with
  | 0, h1 => simp [bagC, U8] at h1
  | 1, h1 => simp [bagC, U8] at h1
  | _ + 2, h1 => simp [bagC] at h1
set_option maxRecDepth 100000 in
theorem fill_ (w : World) (bx : Nat) (n id fr to : Int) (v : Value) (l : List (BitVec 8)) (hx : w.heap[bx]? = some (.cells (msgC id fr to v) 32 (0, 0))) (h : RdB w v l) (hl : l.length ≤ 1000000) :
    Calls Try.prog 41 #[.int .i64 n, .pointer (some ⟨bx, 0, none⟩)] w fun e w' => ∃ v', e = .returned (.agg (msgC n fr to v')) ∧ OwnB w' w.heap.size v' l ∧ Upd [bx] w w' := by
  have H := Lib.hid h
  have HL := Lib.hid hl
  have hsz := size_msg id fr to v
  clear h hl
  go_enter Try.func41, Try.ntmps41
  go_wp2_with (with_reducible refine arm_alloc (zero_msg _) ?_)
  intro b3 w1 hb3 k3 hU1 hz1
  change w1.heap[b3]? = some (.cells (msgC 0 0 0 (.slice none 0 0)) 32 (0, 0)) at k3
  have kx1 := hU1.heap hx (by simp)
  have hne : bx ≠ b3 := by have := lt_of_heap hx; omega
  have HB : Hid (w.heap.size ≤ b3 ∧ bx < w.heap.size) := ⟨by omega, lt_of_heap hx⟩
  clear hb3 hz1 hx
  go_wp2_with (first
    | (with_reducible refine arm_load (by with_unfolding_all exact rfl) kx1 Try.underlying32 (by with_unfolding_all exact rfl) hsz ?_))
  refine (own_ _ id fr to v l (H.out.upd0 hU1) HL.out).mono ?_
  rintro e w2 ⟨v', rfl, ho2, hU2⟩
  have kx2 := hU2.heap kx1 (by simp)
  have k32 := hU2.heap k3 (by simp)
  have hV2 := hU1.trans hU2
  have ho : Hid (OwnB w2 w.heap.size v' l) := ho2.mono (fun k hk => by have := (ho2.lt k hk).1; have := hU1.size; omega)
  have hv1 : Hid (∃ g n c, v' = .slice g n c) := by obtain ⟨a, c, e⟩ := ho2.isSlice; exact ⟨_, _, _, e⟩
  have hnb : Hid (∀ k, v'.ownBlock = some k → k ≠ bx ∧ k ≠ b3) := fun k hk => by have := (ho2.lt k hk).1; have := lt_of_heap kx1; have := lt_of_heap k3; omega
  have hvc : v'.cells = #[v'] ∧ v'.oneCell' = true := by obtain ⟨a, b, c, rfl⟩ := hv1.out; exact ⟨rfl, rfl⟩
  have hs2 := size_msg id fr to v'
  have hsn := size_msg n fr to v'
  have ha2 := one_msg id fr to hvc.2
  have han := one_msg n fr to hvc.2
  clear ho2 kx1 k3 hU1 hU2 hsz
  go_wp2_with (with_reducible refine arm_store (by with_unfolding_all exact rfl) (by with_unfolding_all exact rfl) kx2 hs2 (by with_unfolding_all exact rfl) ha2 ?_)
  intro w3 kx3 hX3 hz3
  have k33 := hX3.heap k32 (fun hm => hne (List.mem_singleton.1 hm).symm)
  clear kx2 k32
  go_wp2_with (with_reducible refine arm_store_at (by with_unfolding_all exact rfl) (by with_unfolding_all exact rfl) kx3 (by simp [msgC]) (by with_unfolding_all exact rfl) size_int1 (by with_unfolding_all exact rfl) ?_)
  intro w4 kx4 hX4 hz4
  change w4.heap[bx]? = some (.cells (msgC n fr to v') 32 (0, 0)) at kx4
  have k34 := hX4.heap k33 (fun hm => hne (List.mem_singleton.1 hm).symm)
  clear kx3 k33
  go_wp2_with (first
    | (with_reducible refine arm_load (by with_unfolding_all exact rfl) kx4 Try.underlying32 (by with_unfolding_all exact rfl) hsn ?_)
    | (with_reducible refine arm_store (by with_unfolding_all exact rfl) (by with_unfolding_all exact rfl) k34 hsn (by with_unfolding_all exact rfl) han ?_))
  intro w5 k35 hX5 hz5
  go_wp2_with (fail)
  refine bodyPost_ret (v := .agg (msgC n fr to v')) (results_cell_row rfl _ _ b3 32 _ (0, 0) _ rfl k35 Try.underlying32 rfl hsn) rfl ?_
  refine ⟨v', rfl, ((ho.out.upd hX3 (fun k hk hm => (hnb.out k hk).1 (List.mem_singleton.1 hm))).upd hX4 (fun k hk hm => (hnb.out k hk).1 (List.mem_singleton.1 hm))).upd hX5 (fun k hk hm => (hnb.out k hk).2 (List.mem_singleton.1 hm)), ((hV2.of0.trans hX3).trans hX4).trans' hX5 (fun i hm hl => ?_)⟩
  have := List.mem_singleton.1 hm; have := HB.out; omega
/-- a message more -/
theorem BagAt.push {w w' : World} {lo bb bm last : Nat} {es : List Ent} {D : DataW Value} (h : BagAt w lo bb bm last es D) (fr to : Int) (v : Value) (l : List (BitVec 8)) (hv : OwnB w lo v l) (hn : ∀ e ∈ es, ∀ k, e.v.ownBlock = some k → v.ownBlock ≠ some k) (hl : l.length ≤ 1024) (hr : es.length < 4096) (hid : ∀ e ∈ es, e.id < last)
    (h1 : 1 ≤ last) (hm : w'.ownsMap Try.prog 3 readV bm (es.length + 1) (D.put (.int .i64 (last : Int)) (.held (.agg (msgC (last : Int) fr to v))))) (u : Upd [bm] w w') :
    BagAt w' lo bb bm last (es ++ [⟨(last : Int), fr, to, v, l⟩]) (D.put (.int .i64 (last : Int)) (.held (.agg (msgC (last : Int) fr to v)))) := by
  refine ⟨u.heap h.cells (fun hm => h.ne (List.mem_singleton.1 hm).symm), by rw [List.length_append]; exact hm, h.of.push ⟨(last : Int), fr, to, v, l⟩ hid, fun e he => ?_, List.pairwise_append.2 ⟨h.apart, List.pairwise_singleton _ _, fun a ha b hb k hk => by rw [List.mem_singleton.1 hb]; exact hn a ha k hk⟩, List.pairwise_append.2 ⟨h.rise, List.pairwise_singleton _ _, fun a ha b hb => by rw [List.mem_singleton.1 hb]; exact hid a ha⟩, fun e he => ?_, fun e he => ?_, h.low, by simp; omega⟩
  · rcases List.mem_append.1 he with he | he
    · exact (h.rows e he).upd u (fun k hk hm => mapb_ne (h.rows e he) h.map (by rw [hk, List.mem_singleton.1 hm]))
    · rw [List.mem_singleton.1 he]
      exact hv.upd u (fun k hk hm => mapb_ne hv h.map (by rw [hk, List.mem_singleton.1 hm]))
  · rcases List.mem_append.1 he with he | he
    · exact h.ids e he
    · rw [List.mem_singleton.1 he]; exact ⟨by show (1 : Int) ≤ (last : Int); omega, Int.le_refl _⟩
  · rcases List.mem_append.1 he with he | he
    · exact h.short e he
    · rw [List.mem_singleton.1 he]; exact hl
set_option maxRecDepth 100000 in
set_option maxHeartbeats 3200000 in
theorem lay_ (w : World) (lo bb bm last : Nat) (es : List Ent) (D : DataW Value) (h : BagAt w lo bb bm last es D) (bx : Nat) (id fr to : Int) (v : Value) (l : List (BitVec 8)) (hx : w.heap[bx]? = some (.cells (msgC id fr to v) 32 (0, 0))) (hv : RdB w v l) (hl : l.length ≤ 1024) (hlast : last ≤ 100000) (hroom : es.length < 4096) :
    Calls Try.prog 40 #[.pointer (some ⟨bb, 0, none⟩), .func (.func 41) #[] #[.pointer (some ⟨bx, 0, none⟩)]] w fun e w' => ∃ v' D', e = .returned (.int .i64 ((last : Int) + 1)) ∧ BagAt w' lo bb bm (last + 1) (es ++ [⟨(last : Int) + 1, fr, to, v', l⟩]) D' ∧ (∀ k, v'.ownBlock = some k → w.heap.size ≤ k) ∧ Upd [bb, bm, bx] w w' := by
  have hcells := h.cells
  have c1 : w.cell? ⟨bb, 1, none⟩ = some (.int .i64 last) := by rw [cell_of_row _ _ _ _ _ _ hcells]; rfl
  have hli : (last : Int) ≤ 100000 := by omega
  have H := Lib.hid h
  have HV := Lib.hid hv
  have HVB := Lib.hid (rd_ne hv hcells)
  have HL := Lib.hid hl
  have HR := Lib.hid hroom
  have HLA := Lib.hid hlast
  have HX := Lib.hid hx
  clear h hv hl hroom hlast hx
  go_enter Try.func40, Try.ntmps40
  go_wp2_with (with_reducible refine arm_store_at (by with_unfolding_all exact rfl) (by with_unfolding_all exact rfl) hcells (by simp [bagC]) (by with_unfolding_all exact rfl) size_int1 (by with_unfolding_all exact rfl) ?_)
  intro w1 k1 hX1 hz1
  change w1.heap[bb]? = some (.cells (bagC bm ((last : Int) + 1)) 71 (0, 0)) at k1
  have hxb : bx ≠ bb := heap_ne HX.out hcells (by decide)
  have hmb : bm ≠ bb := H.out.ne
  have hx1 := hX1.heap HX.out (fun hm => hxb (List.mem_singleton.1 hm))
  have HB1 : Hid (BagAt w1 lo bb bm (last + 1) es D) := ⟨k1, own_map_upd H.out.map hX1 (fun hm => hmb (List.mem_singleton.1 hm)), H.out.of, fun e he => (H.out.rows e he).upd hX1 (fun k hk hm => cells_ne (H.out.rows e he) hcells (by decide) (by rw [hk, List.mem_singleton.1 hm])), H.out.apart, H.out.rise, fun e he => ⟨(H.out.ids e he).1, by have := (H.out.ids e he).2; omega⟩, H.out.short, H.out.low, H.out.room⟩
  have HV1 : Hid (RdB w1 v l) := HV.out.upd' hX1 HVB.out
  have HM0 : Hid (∀ W, Upd [bx, bm] w1 W → W.cell? ⟨bb, 0, none⟩ = some (.map (some bm))) := fun W hW => by rw [cell_of_row _ _ _ _ _ _ (hW.heap k1 (by simp [hxb.symm, hmb.symm]))]; rfl
  have HM1 : Hid (∀ W, Upd [bx, bm] w1 W → W.cell? ⟨bb, 1, none⟩ = some (.int .i64 ((last : Int) + 1))) := fun W hW => by rw [cell_of_row _ _ _ _ _ _ (hW.heap k1 (by simp [hxb.symm, hmb.symm]))]; rfl
  have HX1 := Lib.hid hX1
  have HHX := Lib.hid hx1
  clear c1 hcells hX1 hz1 hx1
  go_upto_region 2 with (fail)
  go_simp
  refine wp_region_orders [0, 1, 2, 3, 4, 5, 6, 7, 8, 9, 10, 11, 12] (.step 13 (.step 14 .none .none) .none) (Upd [bx, bm] w1) (by kernel_rfl) (by kernel_rfl) (Upd.refl _ _).drew ?_
  refine takeO_cons _ (.pointer (some ⟨bb, 0, none⟩)) rfl (by kernel_rfl) (yields_move (by kernel_rfl)) ?_
  refine takeO_cons _ (.pointer (some ⟨bb, 0, none⟩)) rfl (by kernel_rfl) (fun w _ => by kernel_rfl) ?_
  refine takeO_cons _ (.pointer (some ⟨bb, 0, none⟩)) rfl (by kernel_rfl) (fun w _ => by kernel_rfl) ?_
  refine takeO_cons _ (.map (some bm)) rfl (by kernel_rfl) (yields_cell (p := ⟨bb, 0, none⟩) (by kernel_rfl) HM0.out Try.underlying67 rfl) ?_
  refine takeO_cons _ (.pointer (some ⟨bb, 0, none⟩)) rfl (by kernel_rfl) (yields_move (by kernel_rfl)) ?_
  refine takeO_cons _ (.pointer (some ⟨bb, 0, none⟩)) rfl (by kernel_rfl) (fun w _ => by kernel_rfl) ?_
  refine takeO_cons _ (.pointer (some ⟨bb, 1, none⟩)) rfl (by kernel_rfl) (fun w _ => by kernel_rfl) ?_
  refine takeO_cons _ (.int .i64 ((last : Int) + 1)) rfl (by kernel_rfl) (yields_cell (p := ⟨bb, 1, none⟩) (by kernel_rfl) HM1.out Try.underlying3 rfl) ?_
  refine takeO_cons _ (.func (.func 41) #[] #[.pointer (some ⟨bx, 0, none⟩)]) rfl (by kernel_rfl) (yields_move (by kernel_rfl)) ?_
  refine takeO_cons _ (.pointer (some ⟨bb, 0, none⟩)) rfl (by kernel_rfl) (yields_move (by kernel_rfl)) ?_
  refine takeO_cons _ (.pointer (some ⟨bb, 0, none⟩)) rfl (by kernel_rfl) (fun w _ => by kernel_rfl) ?_
  refine takeO_cons _ (.pointer (some ⟨bb, 1, none⟩)) rfl (by kernel_rfl) (fun w _ => by kernel_rfl) ?_
  refine takeO_cons _ (.int .i64 ((last : Int) + 1)) rfl (by kernel_rfl) (yields_cell (p := ⟨bb, 1, none⟩) (by kernel_rfl) HM1.out Try.underlying3 rfl) ?_
  refine takeO_nil (by simp [Ord.first]) ?_
  refine ordP_step _ (by simp only [List.getElem?_toArray, List.getElem?_cons_succ, List.getElem?_cons_zero]; rfl) ?_ ordP_none
  go_wp2_with (fail)
  have hD : Upd [] w1 w1.drew := (Upd.refl _ _).drew
  refine (fill_ _ bx _ id fr to v l (hD.heap HHX.out (by simp)) (HV1.out.upd0 hD) (by have := HL.out; omega)).mono ?_
  rintro e w2 ⟨v', rfl, ho2, hU2d⟩
  have hU2 : Upd [bx] w1 w2 := hD.of0.trans hU2d
  have HO2 : Hid (OwnB w2 w1.heap.size v' l) := ho2.mono (fun k hk => (ho2.lt k hk).1)
  clear ho2 hU2d hD
  go_wp2_with (fail)
  have hT2 : Upd [bx, bm] w1 w2 := hU2.mono (fun i hm _ => by simp [List.mem_singleton.1 hm])
  refine ord_more (by simp [Ord.first]) hT2 ?_
  have HB2 : Hid (BagAt w2 lo bb bm (last + 1) es D) := HB1.out.upd hU2 (fun hm => hxb (List.mem_singleton.1 hm).symm) (fun hm => map_ne HB1.out.map HHX.out (List.mem_singleton.1 hm)) (fun e he k hk hm => cells_ne (HB1.out.rows e he) HHX.out (by decide) (by rw [hk, List.mem_singleton.1 hm]))
  have hm2 := HB2.out.map
  have hk0 : wfI ((last : Int) + 1) := wf_small (by omega) (by omega)
  refine ordP_step _ (by simp only [List.getElem?_toArray, List.getElem?_cons_succ, List.getElem?_cons_zero]; rfl) ?_ ordP_none
  refine wpList_mapUpdate_in _ rfl _ _ _ 67 rfl 3 32 law Try.underlying67 readV bm es.length D (by with_unfolding_all exact rfl) hm2 (by have := HR.out; simp [maxLen]; omega) (.int .i64 ((last : Int) + 1)) (.agg (msgC ((last : Int) + 1) fr to v')) (.int .i64 ((last : Int) + 1)) (by with_unfolding_all exact rfl) (by with_unfolding_all exact rfl) (hkey hk0) _ [] rfl ?_
  intro w3 hm3 ht3
  have hU3 : Upd [bm] w2 w3 := (Upd.refl _ _).grown ht3.grown (fun k hk _ => by cases hk; simp)
  go_wp2_with (fail)
  refine ord_last (hT2.trans' hU3 (fun i hm _ => by simp [List.mem_singleton.1 hm])) ?_
  have hsz1 := HX1.out.size
  have hO2 : OwnB w2 lo v' l := HO2.out.mono (fun k hk => by have := (HO2.out.lt k hk).1; have := HB1.out.lt; have := HB1.out.low; omega)
  have HBP : Hid (BagAt w3 lo bb bm (last + 1) (es ++ [⟨(last : Int) + 1, fr, to, v', l⟩]) (D.put (.int .i64 ((last : Int) + 1)) (.held (.agg (msgC ((last : Int) + 1) fr to v'))))) :=
    HB2.out.push fr to v' l hO2 (fun e he k hk hk2 => by have := ((HB1.out.rows e he).lt k hk).2; have := (HO2.out.lt k hk2).1; omega) HL.out HR.out (fun e he => by have := (H.out.ids e he).2; show e.id < ((last + 1 : Nat) : Int); omega) (by omega) hm3 hU3
  have HN : Hid (∀ k, v'.ownBlock = some k → w.heap.size ≤ k) := fun k hk => by have := (HO2.out.lt k hk).1; omega
  have HUU : Hid (Upd [bb, bm, bx] w w3) := (HX1.out.mono (fun i hm _ => by simp [List.mem_singleton.1 hm])).trans ((hT2.trans' hU3 (fun i hm _ => by simp [List.mem_singleton.1 hm])).mono (fun i hm _ => by simp at hm ⊢; rcases hm with h | h <;> simp [h]))
  have c3 : w3.cell? ⟨bb, 1, none⟩ = some (.int .i64 ((last : Int) + 1)) := by rw [cell_of_row _ _ _ _ _ _ HBP.out.cells]; rfl
  clear hsz1 hO2 hm3 ht3 hU3 hT2 hm2 hk0
  go_wp2_with (fail)
  go_ret
  exact ⟨v', _, rfl, HBP.out, HN.out, HUU.out⟩
/-- what a call that lays a message in leaves -/
def Laid (w : World) (lo bb bm last : Nat) (es : List Ent) (fr to : Int) (l : List (BitVec 8)) (e : Ending) (w' : World) : Prop :=
  ∃ v' D', e = .returned (.tuple #[.int .i64 ((last : Int) + 1), .int .i64 0]) ∧ BagAt w' lo bb bm (last + 1) (es ++ [⟨(last : Int) + 1, fr, to, v', l⟩]) D' ∧ (∀ k, v'.ownBlock = some k → w.heap.size ≤ k) ∧ Upd [bb, bm] w w'
theorem Laid.of {w1 w w' : World} {lo bb bm last : Nat} {es : List Ent} {fr to : Int} {l : List (BitVec 8)} {e : Ending} (h : Laid w1 lo bb bm last es fr to l e w') (u : Upd [] w w1) : Laid w lo bb bm last es fr to l e w' := by
  obtain ⟨v', D', h1, h2, h3, h4⟩ := h
  exact ⟨v', D', h1, h2, fun k hk => Nat.le_trans u.size (h3 k hk), u.of0.trans h4⟩
set_option maxRecDepth 100000 in
theorem add_ (w : World) (lo bb bm last : Nat) (es : List Ent) (D : DataW Value) (h : BagAt w lo bb bm last es D) (id fr to : Int) (v : Value) (l : List (BitVec 8)) (hv : RdB w v l) (hl : l.length ≤ 1024) (hlast : last ≤ 100000) (hroom : es.length < 4096) :
    Calls Try.prog 30 #[.pointer (some ⟨bb, 0, none⟩), .agg (msgC id fr to v)] w (Laid w lo bb bm last es fr to l) := by
  have hd : ((4096 : Int) - (es.length : Int) == 0) = false := by simp; omega
  have H := Lib.hid h
  have HV := Lib.hid hv
  have HL := Lib.hid hl
  have HR := Lib.hid hroom
  have HLA := Lib.hid hlast
  clear h hv hl hroom hlast
  go_enter Try.func30, Try.ntmps30
  go_wp2_with (with_reducible refine arm_box (by with_unfolding_all exact rfl) ?_)
  intro bx w1 hb1 k1 hU1 hz1
  change w1.heap[bx]? = some (.cells (msgC id fr to v) 32 (0, 0)) at k1
  have HU1 := Lib.hid hU1
  have HK1 := Lib.hid k1
  have HBX : Hid (w.heap.size ≤ bx) := by show w.heap.size ≤ bx; omega
  clear hU1 k1 hz1 hb1
  go_wp2_with (fail)
  refine (room_ _ lo bb bm last es D (H.out.upd0 HU1.out)).mono ?_
  rintro e w2 ⟨rfl, rfl⟩
  go_wp2_with (fail)
  refine (lay_ _ lo bb bm last es D (H.out.upd0 HU1.out) bx id fr to v l HK1.out (HV.out.upd0 HU1.out) HL.out HLA.out HR.out).mono ?_
  rintro e w3 ⟨v', D', rfl, hB3, hn3, hU3⟩
  have HB3 := Lib.hid hB3
  have HN3 := Lib.hid hn3
  have HU3 := Lib.hid hU3
  clear hB3 hn3 hU3 hd
  go_wp2_with (fail)
  refine bodyPost_ret (results_tmp2 rfl _ _ _) rfl ?_
  exact ⟨v', D', rfl, HB3.out, fun k hk => Nat.le_trans HU1.out.size (HN3.out k hk), HU1.out.of0.trans' HU3.out (fun i hm hlt => by simp at hm ⊢; have := HBX.out; omega)⟩
set_option maxRecDepth 100000 in
theorem add_full (w : World) (lo bb bm last : Nat) (es : List Ent) (D : DataW Value) (h : BagAt w lo bb bm last es D) (id fr to : Int) (v : Value) (hroom : es.length = 4096) :
    Calls Try.prog 30 #[.pointer (some ⟨bb, 0, none⟩), .agg (msgC id fr to v)] w fun e w' => e = .returned (.tuple #[.int .i64 0, .int .i64 241]) ∧ Upd [] w w' := by
  have hd : ((4096 : Int) - (es.length : Int) == 0) = true := by simp; omega
  have H := Lib.hid h
  have HR := Lib.hid hroom
  clear h hroom
  go_enter Try.func30, Try.ntmps30
  go_wp2_with (with_reducible refine arm_box (by with_unfolding_all exact rfl) ?_)
  intro bx w1 hb1 k1 hU1 hz1
  have HU1 := Lib.hid hU1
  clear hU1 k1 hz1 hb1
  go_wp2_with (fail)
  refine (room_ _ lo bb bm last es D (H.out.upd0 HU1.out)).mono ?_
  rintro e w2 ⟨rfl, rfl⟩
  go_wp2_with (fail)
  refine bodyPost_ret (results_tmp2 rfl _ _ _) rfl ?_
  exact ⟨rfl, HU1.out⟩
end Go.Proofs.Ytjeddokenpkpnaa
