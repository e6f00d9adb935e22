/-
  The document's bag: with, Put, Double.
-/
import Derived.Test.YtjeddokenpkpnaaRefB
namespace Go.Proofs.Ytjeddokenpkpnaa
open Go Go.RowKit Go.Proofs Go.Maps
theorem results_ctt {P : Program} {fn : Func} {p u u' : Tmp} {ty : TypeId} (h : fn.results = #[.cell p ty, .tmp u, .tmp u']) (tmps : Array Value) (w : World) (g : Nat) (t : TypeId) (cs : Array Value) (fr : Nat × Nat) (d : TypeDesc)
    (hp : tmps.getD p undef = .pointer (some ⟨g, 0, none⟩)) (hg : w.heap[g]? = some (.cells cs t fr))
    (hu : P.underlying ty = some d) (hd : (match d with | .struct _ | .array _ _ => true | _ => false) = true) (hi : (P.info? ty).map (·.size) = some cs.size) {x y : Value} (hx : tmps.getD u undef = x) (hy : tmps.getD u' undef = y) :
    (results fn tmps).run P w = .ok (.tuple #[.agg cs, x, y]) w := by
  have hp' : tmps[p]?.getD undef = .pointer (some ⟨g, 0, none⟩) := by simpa using hp
  have hx' : tmps[u]?.getD undef = x := by simpa using hx
  have hy' : tmps[u']?.getD undef = y := by simpa using hy
  simp [results, h, hp', hx', hy', asAddr, run_loadVar_row w g t ty cs fr d hg hu hd hi, Result.andThen]
theorem results_cct {P : Program} {fn : Func} {p q u : Tmp} {ty tz : TypeId} (h : fn.results = #[.cell p ty, .cell q tz, .tmp u]) (tmps : Array Value) (w : World) (g g' : Nat) (t t' : TypeId) (cs cs' : Array Value) (fr fr' : Nat × Nat) (d d' : TypeDesc)
    (hp : tmps.getD p undef = .pointer (some ⟨g, 0, none⟩)) (hg : w.heap[g]? = some (.cells cs t fr))
    (hu : P.underlying ty = some d) (hd : (match d with | .struct _ | .array _ _ => true | _ => false) = true) (hi : (P.info? ty).map (·.size) = some cs.size)
    (hq : tmps.getD q undef = .pointer (some ⟨g', 0, none⟩)) (hg' : w.heap[g']? = some (.cells cs' t' fr'))
    (hu' : P.underlying tz = some d') (hd' : (match d' with | .struct _ | .array _ _ => true | _ => false) = true) (hi' : (P.info? tz).map (·.size) = some cs'.size) {x : Value} (hx : tmps.getD u undef = x) :
    (results fn tmps).run P w = .ok (.tuple #[.agg cs, .agg cs', x]) w := by
  have hp' : tmps[p]?.getD undef = .pointer (some ⟨g, 0, none⟩) := by simpa using hp
  have hq' : tmps[q]?.getD undef = .pointer (some ⟨g', 0, none⟩) := by simpa using hq
  have hx' : tmps[u]?.getD undef = x := by simpa using hx
  simp [results, h, hp', hq', hx', asAddr, run_loadVar_row w g t ty cs fr d hg hu hd hi, run_loadVar_row w g' t' tz cs' fr' d' hg' hu' hd' hi', Sem.run_bind, Result.andThen]
theorem built_ref (v : Value) (last : Int) (h : ∃ A n c, v = .slice A n c) : Try.prog.built 44 [(0, v), (1, .int .i64 last)] = some (refC v last) := by
  obtain ⟨A, n, c, rfl⟩ := h
  kernel_rfl
theorem arm_build2' {P : Program} {ops : Array Oper} {rest : List Oper} {a : Act} {w : World} {Q : Exit → Act → World → Prop} {dst : Option Tmp} {ty type : TypeId} {pos : String} {after : Array Edge} {x0 x1 : Operand} {v0 v1 : Value} {cs : Array Value}
    (h0 : a.eval x0 = v0) (h1 : a.eval x1 = v1) (hf : P.built ty [(0, v0), (1, v1)] = some cs) (h : wpList P ops Q rest (a.put dst (.agg cs)) w) : wpList P ops Q (⟨dst, .build ty #[(0, x0), (1, x1)], type, pos, after, none⟩ :: rest) a w := by
  subst h0 h1
  exact arm_build (by simpa using hf) h
/-- the same with its last number -/
def Ent.as (m : Ent) (n : Int) : Ent := ⟨n, m.fr, m.to, m.v, m.b⟩
set_option maxRecDepth 100000 in
set_option maxHeartbeats 3200000 in
theorem rwith_full (w : World) (v : Value) (last : Int) (ks : List Ent) (h : RdM w v ks) (hn : ks.length = 4096) (m : Ent) :
    Calls Try.prog 46 #[.agg (refC v last), .agg m.cells] w fun e w' => e = .returned (.tuple #[.agg (refC v last), .int .i64 0, .int .i64 241]) ∧ Upd [] w w' := by
  obtain ⟨A, c, eA, _⟩ := h.row.isSlice
  rw [List.length_map, hn] at eA
  subst eA
  have hsz := size_ref (.slice A 4096 c) last
  have hone := one_ref (v := .slice A 4096 c) last rfl
  clear h hn
  unfold Ent.cells
  go_enter Try.func46, Try.ntmps46
  go_wp2_with (with_reducible refine arm_box (by with_unfolding_all exact rfl) ?_)
  intro b2 w2 hb2 k2 hU2 hz2
  change w2.heap[b2]? = some (.cells (refC (.slice A 4096 c) last) 44 (0, 0)) at k2
  have HU2 := Lib.hid hU2
  clear hb2 hU2 hz2
  go_wp2_with (with_reducible refine arm_box (by with_unfolding_all exact rfl) ?_)
  intro b3 w3 hb3 k3 hU3 hz3
  have k23 := hU3.heap k2 (by simp)
  have HU3 := Lib.hid (HU2.out.trans hU3)
  clear hb3 hU3 hz3 k3 k2
  go_wp2_with (with_reducible refine arm_alloc (zero_ref _) ?_)
  intro b4 w4 hb4 k4 hU4 hz4
  change w4.heap[b4]? = some (.cells (refC (.slice none 0 0) 0) 44 (0, 0)) at k4
  have k24 := hU4.heap k23 (by simp)
  have c0 : w4.cell? ⟨b2, 0, none⟩ = some (.slice A 4096 c) := by rw [cell_of_row _ _ _ _ _ _ k24]; rfl
  have HB4 : Hid (w3.heap.size = b4) := hb4
  have HU4 := Lib.hid (HU3.out.trans hU4)
  clear hb4 hU4 hz4 k23
  go_wp2_with (first
    | (with_reducible refine arm_load (by with_unfolding_all exact rfl) k24 Try.underlying44 (by with_unfolding_all exact rfl) hsz ?_)
    | (with_reducible refine arm_store (by with_unfolding_all exact rfl) (by with_unfolding_all exact rfl) k4 hsz (by with_unfolding_all exact rfl) hone ?_))
  intro w5 k5 hX5 hz5
  have HU5 : Hid (Upd [] w w5) := HU4.out.trans' hX5 (fun k hm hl => by have := List.mem_singleton.1 hm; have := HB4.out; have := HU3.out.size; omega)
  clear hX5 hz5 k4 k24 c0
  go_wp2_with (fail)
  refine bodyPost_ret (results_ctt rfl _ _ b4 44 _ (0, 0) _ rfl k5 Try.underlying44 rfl hsz rfl rfl) rfl ?_
  exact ⟨rfl, HU5.out⟩
set_option maxRecDepth 100000 in
set_option maxHeartbeats 3200000 in
theorem rwith_ok (w : World) (v : Value) (last : Nat) (ks : List Ent) (h : RdM w v ks) (hn : ks.length < 4096) (hla : last ≤ 100000) (m : Ent) (hm : m.v.oneCell' = true) :
    Calls Try.prog 46 #[.agg (refC v last), .agg m.cells] w fun e w' => ∃ v', e = .returned (.tuple #[.agg (refC v' ((last : Int) + 1)), .int .i64 ((last : Int) + 1), .int .i64 0]) ∧ OwnA w' w.heap.size 32 4 v' ((ks ++ [m.as ((last : Int) + 1)]).map fun t => t.cells.toList) ∧ Upd [] w w' := by
  obtain ⟨A, c, eA, _⟩ := h.row.isSlice
  rw [List.length_map] at eA
  have h1 : ∀ y ∈ (ks.map fun t => t.cells.toList), ∀ q ∈ y, q.oneCell' = true := fun y hy => by
    obtain ⟨k, hk, rfl⟩ := List.mem_map.1 hy
    obtain ⟨a, q, e, _⟩ := (h.bodies k hk).isSlice
    exact one_msgL k.id k.fr k.to (by rw [e]; rfl)
  have H1 := Lib.hid h1
  have HR := Lib.hid h.row
  have HN : Hid (ks.length < 4096) := hn
  have hni : (ks.length : Int) < 4096 := by omega
  have hlai : (last : Int) ≤ 100000 := by omega
  obtain ⟨N, hN⟩ : ∃ n, ks.length = n := ⟨_, rfl⟩
  rw [hN] at eA hni
  have HNN := Lib.hid hN
  subst eA
  have HM := Lib.hid hm
  clear h h1 hn hla hN hm
  obtain ⟨id, fr, to, mv, b⟩ := m
  unfold Ent.cells
  have HM' : Hid (mv.oneCell' = true) := HM.out
  clear HM
  go_enter Try.func46, Try.ntmps46
  go_wp2_with (with_reducible refine arm_box (by with_unfolding_all exact rfl) ?_)
  intro b2 w2 hb2 k2 hU2 hz2
  change w2.heap[b2]? = some (.cells (refC (.slice A N c) last) 44 (0, 0)) at k2
  have HU2 := Lib.hid hU2
  clear hb2 hU2 hz2
  go_wp2_with (with_reducible refine arm_box (by with_unfolding_all exact rfl) ?_)
  intro b3 w3 hb3 k3 hU3 hz3
  change w3.heap[b3]? = some (.cells (msgC id fr to mv) 32 (0, 0)) at k3
  have k23 := hU3.heap k2 (by simp)
  have HB3 : Hid (w2.heap.size = b3) := hb3
  have HU3 := Lib.hid (HU2.out.trans hU3)
  clear hb3 hU3 hz3 k2
  go_wp2_with (with_reducible refine arm_alloc (zero_ref _) ?_)
  intro b4 w4 hb4 k4 hU4 hz4
  change w4.heap[b4]? = some (.cells (refC (.slice none 0 0) 0) 44 (0, 0)) at k4
  have k24 := hU4.heap k23 (by simp)
  have k34 := hU4.heap k3 (by simp)
  have HL34 : Hid (b3 < w4.heap.size ∧ b4 < w4.heap.size) := ⟨lt_of_heap k34, lt_of_heap k4⟩
  have HL3 : Hid (w.heap.size ≤ b3) := by show w.heap.size ≤ b3; have := HB3.out; have := HU2.out.size; omega
  have HL4 : Hid (w.heap.size ≤ b4) := by show w.heap.size ≤ b4; have := hb4; have := HU3.out.size; omega
  have c0 : w4.cell? ⟨b2, 0, none⟩ = some (.slice A N c) := by rw [cell_of_row _ _ _ _ _ _ k24]; rfl
  have HB4 : Hid (w3.heap.size = b4) := hb4
  have HU4 := Lib.hid (HU3.out.trans hU4)
  have hR4 := HR.out.upd0 HU4.out
  have hl4 : ([] : List Cs).length + (ks.map fun t => t.cells.toList).length ≤ 1000000 := by rw [List.length_map]; have := HN.out; simp; omega
  have h1 := H1.out
  clear hb4 hU4 hz4 k23 k3
  go_wp2_with (with_reducible refine appendAll eltM (by with_unfolding_all exact rfl) (by with_unfolding_all exact rfl) (OwnA.nil _ w4.heap.size _ _) hR4 h1 hl4 (by decide) (Nat.le_refl _) ?_)
  intro v5 w5 hO5 hU5 _
  have hO5 : OwnA w5 w4.heap.size 32 4 v5 (ks.map fun t => t.cells.toList) := hO5
  have hU5 : Upd [] w4 w5 := hU5
  have k25 := hU5.heap k24 (by simp)
  have k35 := hU5.heap k34 (by simp)
  have k45 := hU5.heap k4 (by simp)
  have c1 : w5.cell? ⟨b2, 1, none⟩ = some (.int .i64 last) := by rw [cell_of_row _ _ _ _ _ _ k25]; rfl
  have HO5 := Lib.hid hO5
  have HU5 := Lib.hid hU5
  have HK45 := Lib.hid k45
  clear hO5 hU5 k24 k34 k4 hR4 hl4 h1 c0 k45
  go_wp2_with (with_reducible refine arm_store_at (by with_unfolding_all exact rfl) (by with_unfolding_all exact rfl) k35 (by simp [msgC]) (by with_unfolding_all exact rfl) size_int1 (by with_unfolding_all exact rfl) ?_)
  intro w6 k6 hX6 hz6
  change w6.heap[b3]? = some (.cells (msgC ((last : Int) + 1) fr to mv) 32 (0, 0)) at k6
  have HK4 := Lib.hid (hX6.heap HK45.out (fun hm => heap_ne HK45.out k35 (by decide) (List.mem_singleton.1 hm)))
  have HV5 : Hid (∀ k, v5.ownBlock = some k → k ≠ b3 ∧ k ≠ b4) := fun k hk => by have h1 := (HO5.out.lt k hk).1; have := HL34.out; omega
  have HO6 := Lib.hid (HO5.out.upd hX6 (fun k hk hm => (HV5.out k hk).1 (List.mem_singleton.1 hm)))
  have HN43 : Hid (b3 ≠ b4) := fun e => heap_ne HK45.out k35 (by decide) e.symm
  have HX6 := Lib.hid hX6
  have HK6 := Lib.hid k6
  have HQ3 : Hid (∀ W, Upd (b4 :: v5.ownBlock.toList) w6 W → ∃ t fr', W.heap[b3]? = some (.cells (msgC ((last : Int) + 1) fr to mv) t fr')) := fun W hW => ⟨_, _, hW.heap HK6.out (by simp; exact ⟨HN43.out, fun e => (HV5.out b3 e).1 rfl⟩)⟩
  have HC3 : Hid (∀ W, Upd (b4 :: v5.ownBlock.toList) w6 W → W.cell? ⟨b3, 0, none⟩ = some (.int .i64 ((last : Int) + 1))) := fun W hW => by rw [cell_of_row _ _ _ _ _ _ (hW.heap HK6.out (by simp; exact ⟨HN43.out, fun e => (HV5.out b3 e).1 rfl⟩))]; rfl
  have hsm := size_msg ((last : Int) + 1) fr to mv
  obtain ⟨v5', hv5⟩ : ∃ q, v5 = q := ⟨_, rfl⟩
  clear hX6 hz6 k35 k25 k6 c1 hv5 v5'
  go_upto_region 6 with (fail)
  go_simp
  refine wp_region_orders [0, 1, 4, 5, 7, 8] (.step 2 (.step 3 (.step 6 (.step 9 (.step 10 (.step 11 .none .none) .none) .none) .none) .none) .none) (Upd (b4 :: v5.ownBlock.toList) w6) (by kernel_rfl) (by kernel_rfl) (Upd.refl _ _).drew ?_
  refine takeO_cons _ v5 rfl (by kernel_rfl) (yields_move (by kernel_rfl)) ?_
  refine takeO_cons _ (.agg (msgC ((last : Int) + 1) fr to mv)) rfl (by kernel_rfl) (yields_row (g := b3) (by kernel_rfl) HQ3.out Try.underlying32 rfl hsm) ?_
  refine takeO_cons _ (.pointer (some ⟨b3, 0, none⟩)) rfl (by kernel_rfl) (fun w _ => by kernel_rfl) ?_
  refine takeO_cons _ (.int .i64 ((last : Int) + 1)) rfl (by kernel_rfl) (yields_cell (p := ⟨b3, 0, none⟩) (by kernel_rfl) HC3.out Try.underlying3 rfl) ?_
  refine takeO_cons _ (.pointer (some ⟨b3, 0, none⟩)) rfl (by kernel_rfl) (fun w _ => by kernel_rfl) ?_
  refine takeO_cons _ (.int .i64 ((last : Int) + 1)) rfl (by kernel_rfl) (yields_cell (p := ⟨b3, 0, none⟩) (by kernel_rfl) HC3.out Try.underlying3 rfl) ?_
  refine takeO_nil (by simp [Ord.first]) ?_
  have hD2 : Upd [] w6 w6.drew := (Upd.refl _ _).drew
  have hcs : (msgC ((last : Int) + 1) fr to mv).size = 4 := rfl
  refine ordP_step _ (by simp only [List.getElem?_toArray, List.getElem?_cons_succ, List.getElem?_cons_zero]; rfl) ?_ ordP_none
  go_simp
  with_reducible refine bsA eltM hcs (by with_unfolding_all exact rfl) ?_
  intro g7 w7 hg7 k7 hU7
  change w7.heap[g7]? = some (.cells (msgC ((last : Int) + 1) fr to mv).toList.toArray 32 (0, 0)) at k7
  go_wp2_with (fail)
  have hW7 := hD2.trans hU7
  refine ord_more (by simp [Ord.first]) hW7.of0 ?_
  refine ordP_step _ (by simp only [List.getElem?_toArray, List.getElem?_cons_succ, List.getElem?_cons_zero]; rfl) ?_ ordP_none
  have hO7 := HO6.out.upd0 hW7
  have hB7 : w4.heap.size ≤ w7.heap.size := by have := HU5.out.size; have := HX6.out.size; have := hW7.size; omega
  have ha7 : ∀ u ∈ (msgC ((last : Int) + 1) fr to mv).toList, u.oneCell' = true := one_msgL _ _ _ HM'.out
  have hl7 : (ks.map fun t => t.cells.toList).length ≤ 1000000 := by rw [List.length_map]; have := HN.out; omega
  with_reducible refine appendA eltM (by with_unfolding_all exact rfl) (by with_unfolding_all exact rfl) hO7 k7 (by with_unfolding_all exact rfl) ha7 hl7 (by decide) hB7 ?_
  intro v8 w8 hO8 hU8 hb8
  have HO8 : Hid (OwnA w8 w4.heap.size 32 4 v8 ((ks ++ [(Ent.mk id fr to mv b).as ((last : Int) + 1)]).map fun t => t.cells.toList)) := by
    show OwnA w8 w4.heap.size 32 4 v8 ((ks ++ [(Ent.mk id fr to mv b).as ((last : Int) + 1)]).map fun t => t.cells.toList)
    rw [List.map_append]; exact hO8
  have hV8 : v8.cells = #[v8] ∧ v8.oneCell' = true ∧ ∃ A n c, v8 = .slice A n c := by obtain ⟨A4, c4, e4⟩ := OwnA.isSlice hO8; rw [e4]; exact ⟨rfl, rfl, _, _, _, rfl⟩
  have hbr := built_ref v8 ((last : Int) + 1) hV8.2.2
  have h78 : Upd v5.ownBlock.toList w6 w8 := (hW7.of0).trans' hU8 (fun i hm _ => hm)
  have k48 := h78.heap HK4.out (fun hm => (HV5.out b4 (by simpa using hm)).2 rfl)
  have HU8 : Hid (Upd [] w w8) := ((HU4.out.trans HU5.out).trans' HX6.out (fun k hm hl => by have := List.mem_singleton.1 hm; have := HL3.out; omega)).trans' h78 (fun k hm hl => by have := (HO5.out.lt k (by simpa using hm)).1; have := HU4.out.size; omega)
  have hS8 : Upd (b4 :: v5.ownBlock.toList) w6 w8 := (hW7.of0).trans' hU8 (fun i hm _ => List.mem_cons_of_mem _ hm)
  have HS8 := Lib.hid hS8
  have hsr := size_ref v8 ((last : Int) + 1)
  have hor := one_ref ((last : Int) + 1) hV8.2.1
  go_wp2_with (fail)
  refine ord_more (by simp [Ord.first]) HS8.out ?_
  refine ordP_step _ (by simp only [List.getElem?_toArray, List.getElem?_cons_succ, List.getElem?_cons_zero]; rfl) ?_ ordP_none
  with_reducible refine arm_build2' (by with_unfolding_all exact rfl) (by with_unfolding_all exact rfl) hbr ?_
  go_wp2_with (fail)
  refine ord_more (by simp [Ord.first]) HS8.out ?_
  refine ordP_step _ (by simp only [List.getElem?_toArray, List.getElem?_cons_succ, List.getElem?_cons_zero]; rfl) ?_ ordP_none
  with_reducible refine arm_store (by with_unfolding_all exact rfl) (by with_unfolding_all exact rfl) k48 hsr (by with_unfolding_all exact rfl) hor ?_
  intro w9 k9 hX9 hz9
  have HS9 : Hid (Upd (b4 :: v5.ownBlock.toList) w6 w9) := HS8.out.trans' hX9 (fun i hm _ => by rw [List.mem_singleton.1 hm]; simp)
  have HU9 : Hid (Upd [] w w9) := HU8.out.trans' hX9 (fun k hm hl => by have := List.mem_singleton.1 hm; have := HL4.out; omega)
  have HO9 : Hid (OwnA w9 w4.heap.size 32 4 v8 ((ks ++ [(Ent.mk id fr to mv b).as ((last : Int) + 1)]).map fun t => t.cells.toList)) := HO8.out.upd hX9 (fun k hk hm => by have h1 := (HO8.out.lt k hk).1; have := HL34.out; have := List.mem_singleton.1 hm; omega)
  clear hX9 hz9 k48 hU8 hb8 hO8 k7 hU7 hg7
  go_wp2_with (fail)
  refine ord_more (by simp [Ord.first]) HS9.out ?_
  refine ordP_step _ (by simp only [List.getElem?_toArray, List.getElem?_cons_succ, List.getElem?_cons_zero]; rfl) ?_ ordP_none
  go_wp2_with (fail)
  refine ord_more (by simp [Ord.first]) HS9.out ?_
  refine ordP_step _ (by simp only [List.getElem?_toArray, List.getElem?_cons_succ, List.getElem?_cons_zero]; rfl) ?_ ordP_none
  go_wp2_with (fail)
  refine ord_last HS9.out ?_
  go_wp2_with (fail)
  refine bodyPost_ret (results_ctt rfl _ _ b4 44 _ (0, 0) _ rfl k9 Try.underlying44 rfl hsr rfl rfl) rfl ?_
  exact ⟨_, rfl, HO9.out.mono (fun k hk => by have h1 := (HO9.out.lt k hk).1; have := HU4.out.size; omega), HU9.out⟩
end Go.Proofs.Ytjeddokenpkpnaa
