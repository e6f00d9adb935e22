/-
  The document's bag: a value: New, Get, Len, Room, List; append of all of a row.
-/
import Derived.Test.YtjeddokenpkpnaaPlayF
namespace Go.Proofs.Ytjeddokenpkpnaa
open Go Go.RowKit Go.Proofs Go.Maps
section
variable {P : Program} {ops : Array Oper} {rest : List Oper} {a : Act} {w : World} {Q : Exit → Act → World → Prop} {dst : Option Tmp} {type : TypeId} {pos : String} {after : Array Edge} {t e : TypeId} {sz bytes : Nat} {z : Value}
/-- all elements of a row behind a row of them -/
theorem appendAll {s x : Operand} {B : Nat} {v u : Value} {rs ys : List Cs} (E : ElemT P t e sz bytes z) (hs : a.eval s = v) (hx : a.eval x = u) (hown : OwnA w B e sz v rs) (hr : RdA w sz u ys) (h1 : ∀ y ∈ ys, ∀ q ∈ y, q.oneCell' = true) (hl : rs.length + ys.length ≤ 1000000) (hb : bytes ≤ 100000000) (hbase : B ≤ w.heap.size)
    (h : ∀ v' w', OwnA w' B e sz v' (rs ++ ys) → Upd v.ownBlock.toList w w' → (v'.ownBlock = v.ownBlock ∨ v'.ownBlock = some w.heap.size) → wpList P ops Q rest (a.put dst v') w') :
    wpList P ops Q (⟨dst, .call { callee := .builtin .append, args := #[s, x], argTypes := #[t, t] }, type, pos, after, none⟩ :: rest) a w := by
  obtain ⟨i, hi, hz, hsz, hby⟩ := E.hi
  have hyl := hr.1
  have fin : ∀ v' w', w'.ownsRow B e sz v' (rs.length + ys.length) (rs.flatten ++ ys.flatten) → w.grownBy w' v.ownBlock → Grew w v v' rs.length (rs.length + ys.length) → wpList P ops Q rest (a.put dst v') w' := fun v' w' h2 h4 h5 =>
    h v' w' ⟨fun y hy => by
      rcases List.mem_append.1 hy with hy | hy
      · exact hown.1 y hy
      · exact hyl y hy, by rw [List.length_append, List.flatten_append]; exact h2⟩ (upd_grown h4) h5.block
  have keep : ∀ (ad : Addr) (c : Nat), a.eval x = .slice (some ad) ys.length c → (∀ j q, ys.flatten[j]? = some q → w.cell? (ad.add j) = some q) →
      wpList P ops Q (⟨dst, .call { callee := .builtin .append, args := #[s, x], argTypes := #[t, t] }, type, pos, after, none⟩ :: rest) a w := fun ad c hxe hc =>
    wpList_append_keep rfl s x t rfl B e i z sz bytes E.ht hi hz hsz hby E.hz E.pos v rs.length rs.flatten hs hown.2 ad ys.length c ys.flatten hxe (gflat_length ys hyl) hc
      (fun q hq => by obtain ⟨y, hy, hq⟩ := List.mem_flatten.1 hq; exact h1 y hy q hq) (by simp only [maxLen]; omega)
      (by have := Nat.mul_le_mul (show rs.length + ys.length ≤ 1000000 by omega) hb; omega) hbase (fun v' w' h2 _ h4 h5 => fin v' w' h2 h4 h5)
  rcases Nat.eq_zero_or_pos ys.length with h0 | h0
  · obtain rfl : ys = [] := List.eq_nil_of_length_eq_zero h0
    obtain ⟨_, A, c, rfl, _⟩ := hr
    cases A with
    | none =>
      refine wpList_plain rfl fun K hK => ?_
      have hrun := run_append_nil' (P := P) w B t type e i sz E.ht hi v rs.length rs.flatten hown.2 c
      unfold Oper.wp
      simp only [List.length_nil] at hx
      simp [execOp, resolve, invoke, builtin, hs, hx, hrun, Result.andThen]
      exact hK _ _ (h v w (by rw [List.append_nil]; exact hown) (Upd.refl _ w) (.inl rfl))
    | some ad => exact keep ad c hx (fun j q hj => by simp at hj)
  · obtain ⟨g, p, c, rfl, _, _, hb⟩ := hr.at h0
    exact keep ⟨g, p, none⟩ c hx (fun j q hj => by rw [Addr.add_lit]; exact hb j q hj)
end
def refC (v : Value) (last : Int) : Array Value := #[v, .int .i64 last]
theorem size_ref (v : Value) (last : Int) : (Try.prog.info? 44).map (·.size) = some (refC v last).size := by
  rw [show (refC v last).size = 2 from rfl]; kernel_rfl
theorem zero_ref (w : World) : (zeroValue 44).run Try.prog w = .ok (.agg (refC (.slice none 0 0) 0)) w := by kernel_rfl
theorem one_ref {v : Value} (last : Int) (hv : v.oneCell' = true) : (refC v last).all (·.oneCell') = true := by cases v <;> simp_all [refC, Value.oneCell']
theorem built_ref0 : Try.prog.built 44 [] = some (refC (.slice none 0 0) 0) := by kernel_rfl
/-- what Get answers -/
def got (ks : List Ent) (x : Int) : Array Value × Bool := match findE ks x with | some m => (m.cells, true) | none => (msgC 0 0 0 (.slice none 0 0), false)
theorem got_some {ks : List Ent} {x : Int} {m : Ent} (h : findE ks x = some m) : got ks x = (m.cells, true) := by unfold got; rw [h]
theorem got_none {ks : List Ent} {x : Int} (h : findE ks x = none) : got ks x = (msgC 0 0 0 (.slice none 0 0), false) := by unfold got; rw [h]
theorem findE_at {ks : List Ent} {x : Int} (i : Nat) (hi : i < ks.length) (h : ∀ k ∈ ks.take i, k.id ≠ x) (hx : ks[i].id = x) : findE ks x = some ks[i] := by
  unfold findE at *
  conv => lhs; rw [← List.take_append_drop i ks]
  rw [List.find?_append, List.find?_eq_none.2 (fun k hk => by simpa using h k hk), List.drop_eq_getElem_cons hi, List.find?_cons]
  simp [hx]
set_option maxRecDepth 100000 in
theorem rlen_ (w : World) (v : Value) (last : Int) (ks : List Ent) (h : RdM w v ks) :
    Calls Try.prog 17 #[.agg (refC v last)] w fun e w' => e = .returned (.int .i64 ks.length) ∧ Upd [] w w' := by
  obtain ⟨A, c, eA, _⟩ := h.row.isSlice
  rw [List.length_map] at eA
  subst eA
  clear h
  go_enter Try.func17, Try.ntmps17
  go_wp2_with (with_reducible refine arm_box (by with_unfolding_all exact rfl) ?_)
  intro b2 w2 hb2 k2 hU2 hz2
  change w2.heap[b2]? = some (.cells (refC (.slice A ks.length c) last) 44 (0, 0)) at k2
  have c0 : w2.cell? ⟨b2, 0, none⟩ = some (.slice A ks.length c) := by rw [cell_of_row _ _ _ _ _ _ k2]; rfl
  have HU2 := Lib.hid hU2
  clear hb2 hU2 hz2 k2
  go_wp2_with (fail)
  go_ret
  exact ⟨rfl, HU2.out⟩
set_option maxRecDepth 100000 in
theorem rroom_ (w : World) (v : Value) (last : Int) (ks : List Ent) (h : RdM w v ks) (hn : ks.length ≤ 4096) :
    Calls Try.prog 19 #[.agg (refC v last)] w fun e w' => e = .returned (.int .i64 (4096 - (ks.length : Int))) ∧ Upd [] w w' := by
  obtain ⟨A, c, eA, _⟩ := h.row.isSlice
  rw [List.length_map] at eA
  subst eA
  have hni : (ks.length : Int) ≤ 4096 := by omega
  clear h
  go_enter Try.func19, Try.ntmps19
  go_wp2_with (with_reducible refine arm_box (by with_unfolding_all exact rfl) ?_)
  intro b2 w2 hb2 k2 hU2 hz2
  change w2.heap[b2]? = some (.cells (refC (.slice A ks.length c) last) 44 (0, 0)) at k2
  have c0 : w2.cell? ⟨b2, 0, none⟩ = some (.slice A ks.length c) := by rw [cell_of_row _ _ _ _ _ _ k2]; rfl
  have HU2 := Lib.hid hU2
  clear hb2 hU2 hz2 k2
  go_wp2_with (fail)
  go_ret
  exact ⟨rfl, HU2.out⟩
set_option maxRecDepth 100000 in
theorem rnew_ (w : World) : Calls Try.prog 15 #[] w fun e w' => e = .returned (.agg (refC (.slice none 0 0) 0)) ∧ Upd [] w w' := by
  have hb0 := built_ref0
  have hsz := size_ref (.slice none 0 0) 0
  have hone := one_ref (v := .slice none 0 0) 0 rfl
  go_enter Try.func15, Try.ntmps15
  go_wp2_with (first
    | (with_reducible refine arm_alloc (zero_ref _) ?_)
    | (with_reducible refine arm_build0 hb0 ?_))
  intro b2 w2 hb2 k2 hU2 hz2
  change w2.heap[b2]? = some (.cells (refC (.slice none 0 0) 0) 44 (0, 0)) at k2
  have HB : Hid (w.heap.size = b2) := hb2
  have HU2 := Lib.hid hU2
  clear hb2 hU2 hz2
  go_wp2_with (first
    | (with_reducible refine arm_build0 hb0 ?_)
    | (with_reducible refine arm_store (by with_unfolding_all exact rfl) (by with_unfolding_all exact rfl) k2 hsz (by with_unfolding_all exact rfl) hone ?_))
  intro w3 k3 hX3 hz3
  have HU3 : Hid (Upd [] w w3) := HU2.out.trans' hX3 (fun k hm hl => by have := List.mem_singleton.1 hm; have := HB.out; omega)
  clear hX3 hz3 k2
  go_wp2_with (fail)
  refine bodyPost_ret (v := .agg (refC (.slice none 0 0) 0)) (results_cell_row rfl _ _ b2 44 _ (0, 0) _ rfl k3 Try.underlying44 rfl hsz) rfl ?_
  exact ⟨rfl, HU3.out⟩
set_option maxRecDepth 100000 in
theorem rlist_ (w : World) (v : Value) (last : Int) (ks : List Ent) (h : RdM w v ks) (hn : ks.length ≤ 4096) :
    Calls Try.prog 21 #[.agg (refC v last)] w fun e w' => ∃ v', e = .returned v' ∧ OwnA w' w.heap.size 32 4 v' (ks.map fun t => t.cells.toList) ∧ Upd [] w w' := by
  obtain ⟨A, c, eA, _⟩ := h.row.isSlice
  rw [List.length_map] at eA
  have h1 : ∀ y ∈ (ks.map fun t => t.cells.toList), ∀ q ∈ y, q.oneCell' = true := fun y hy => by
    obtain ⟨k, hk, rfl⟩ := List.mem_map.1 hy
    obtain ⟨a, q, e, _⟩ := (h.bodies k hk).isSlice
    exact one_msgL k.id k.fr k.to (by rw [e]; rfl)
  have H1 := Lib.hid h1
  have hrow := h.row
  subst eA
  have HR := Lib.hid hrow
  clear h h1 hrow
  go_enter Try.func21, Try.ntmps21
  go_wp2_with (with_reducible refine arm_box (by with_unfolding_all exact rfl) ?_)
  intro b2 w2 hb2 k2 hU2 hz2
  change w2.heap[b2]? = some (.cells (refC (.slice A ks.length c) last) 44 (0, 0)) at k2
  have c0 : w2.cell? ⟨b2, 0, none⟩ = some (.slice A ks.length c) := by rw [cell_of_row _ _ _ _ _ _ k2]; rfl
  have HU2 := Lib.hid hU2
  have hR2 := HR.out.upd0 hU2
  have hB2 : w.heap.size ≤ w2.heap.size := hU2.size
  have hl2 : ([] : List Cs).length + (ks.map fun t => t.cells.toList).length ≤ 1000000 := by rw [List.length_map]; simp; omega
  have h1 := H1.out
  clear hb2 hU2 hz2 k2
  go_wp2_with (with_reducible refine appendAll eltM (by with_unfolding_all exact rfl) (by with_unfolding_all exact rfl) (OwnA.nil _ w.heap.size _ _) hR2 h1 hl2 (by decide) hB2 ?_)
  intro v3 w3 hO3 hU3 _
  have HO3 : Hid (OwnA w3 w.heap.size 32 4 v3 (ks.map fun t => t.cells.toList)) := hO3
  have HU3 : Hid (Upd [] w w3) := HU2.out.trans hU3
  clear hO3 hU3 hR2 hB2 hl2 h1 c0
  go_wp2_with (fail)
  go_ret
  exact ⟨_, rfl, HO3.out, HU3.out⟩
end Go.Proofs.Ytjeddokenpkpnaa
