/-
  same, sameMessage, sameList, holds of package 24.
-/
import Derived.Test.YtjeddokenpkpnaaBagT
import Derived.Test.YtjeddokenpkpnaaRegion
namespace Go.Proofs.Ytjeddokenpkpnaa
open Go Go.RowKit Go.Proofs Go.Maps
set_option maxRecDepth 100000 in
set_option maxHeartbeats 800000 in
/-- two byte strings: the same, or not -/
theorem same24n (w : World) (va vb : Value) (la lb : List (BitVec 8)) (ha : RdB w va la) (hb : RdB w vb lb) (hl : la.length ≤ 281474976710656) (hm : lb.length ≤ 281474976710656) :
    Calls Try.prog 29 #[va, vb] w fun e w' => e = .returned (.bool (la == lb)) ∧ ∃ n, w' = w.drewN n := by
  by_cases hlen : la.length = lb.length
  · by_cases h0 : la.length = 0
    · obtain ⟨a, c, rfl, _, _⟩ := ha.isSlice
      obtain ⟨b, d, rfl, _, _⟩ := hb.isSlice
      have e1 : la = [] := List.eq_nil_of_length_eq_zero h0
      have e2 : lb = [] := List.eq_nil_of_length_eq_zero (by omega)
      subst e1 e2
      clear ha hb
      simp only [List.length_nil]
      go_enter Try.func29, Try.ntmps29
      go_wp2
      refine wp_loop_rounds 1 ?_
      rw [rounds_succ]
      go_wp2
      go_ret
      exact ⟨rfl, 0, rfl⟩
    · obtain ⟨g, p, c, rfl, _, _, hA⟩ := ha.at (by omega)
      obtain ⟨g', p', c', rfl, _, _, hB⟩ := hb.at (by omega)
      obtain ⟨n, hn⟩ : ∃ n, la.length = n := ⟨_, rfl⟩
      rw [← hlen]
      rw [hn] at hlen hl ⊢
      clear ha hb h0
      have HA := Lib.hid hA
      have HB := Lib.hid hB
      clear hA hB
      go_enter Try.func29, Try.ntmps29
      go_wp2
      go_loopw [5] (fun i wr => ∃ k q : Nat, k ≤ n ∧ i = .int .i64 k ∧ la.take k = lb.take k ∧ wr = w.drewN q) (fun i _ => n - (intOf i).toNat)
      case atStart => exact ⟨0, 0, by omega, rfl, by simp, rfl⟩
      case round =>
        obtain ⟨k, q, hk, rfl, heq, hwr⟩ := hrel
        have hka : k ≤ la.length := by omega
        have HW := Lib.hid hwr
        by_cases h : k < n
        · have c0 : wr.cell? ⟨g, p + k, none⟩ = some (U8 (la[k]'(by omega))) := by rw [hwr]; exact HA.out k (by omega)
          have c1 : wr.cell? ⟨g', p' + k, none⟩ = some (U8 (lb[k]'(by omega))) := by rw [hwr]; exact HB.out k (by omega)
          obtain ⟨x, hx⟩ : ∃ x, la[k]'(by omega) = x := ⟨_, rfl⟩
          obtain ⟨y, hy⟩ : ∃ y, lb[k]'(by omega) = y := ⟨_, rfl⟩
          rw [hx] at c0
          rw [hy] at c1
          have HE := Lib.hid heq
          have HX := Lib.hid hx
          have HY := Lib.hid hy
          clear hwr heq hx hy
          by_cases hxy : x = y
          · have hne : (x != y) = false := by simp [hxy]
            go_wp2
            go_quiet (skip)
            rename Nat => nq
            go_wp2
            go_roundw
            case rel =>
              refine ⟨k + 1, q + nq, by omega, by go_num, ?_, by rw [HW.out, World.drewN_drewN]⟩
              rw [take_snoc' la k (by omega), take_snoc' lb k (by omega), HE.out, HX.out, HY.out, hxy]
            case measure => simp [intOf]; omega
          · have hne : (x != y) = true := by simp [hxy]
            go_wp2
            go_quiet (skip)
            rename Nat => nq
            go_wp2
            go_ret
            refine ⟨ret_eq (congrArg Value.bool ?_), q + nq, by rw [HW.out, World.drewN_drewN]⟩
            symm
            rw [beq_eq_false_iff_ne]
            intro e
            apply hxy
            rw [← HX.out, ← HY.out]
            simp [e]
        · obtain rfl : k = n := by omega
          have he : la = lb := by
            rw [List.take_of_length_le (by omega), List.take_of_length_le (by omega)] at heq
            exact heq
          clear hwr
          go_wp2
          go_ret
          exact ⟨ret_eq (by simp [he]), q, HW.out⟩
  · obtain ⟨a, c, rfl, _, _⟩ := ha.isSlice
    obtain ⟨b, d, rfl, _, _⟩ := hb.isSlice
    have hne : (la == lb) = false := by rw [beq_eq_false_iff_ne]; intro e; exact hlen (by rw [e])
    have HE := Lib.hid hne
    have hlen' : ¬ ((la.length : Int) = lb.length) := by omega
    clear ha hb hne
    go_enter Try.func29, Try.ntmps29
    go_wp2
    go_ret
    exact ⟨ret_eq (by rw [HE.out]; rfl), 0, rfl⟩
theorem same24 (w : World) (va vb : Value) (la lb : List (BitVec 8)) (ha : RdB w va la) (hb : RdB w vb lb) (hl : la.length ≤ 281474976710656) (hm : lb.length ≤ 281474976710656) :
    Calls Try.prog 29 #[va, vb] w fun e w' => e = .returned (.bool (la == lb)) ∧ Upd [] w w' :=
  (same24n w va vb la lb ha hb hl hm).mono (fun e w' h => ⟨h.1, by obtain ⟨n, rfl⟩ := h.2; exact (Upd.refl _ _).drewN n⟩)
def eqCore (x y : Ent) : Bool := decide (x.id = y.id) && decide (x.fr = y.fr) && decide (x.to = y.to) && (x.b == y.b)
theorem eqCore_iff (x y : Ent) : eqCore x y = true ↔ x.core = y.core := by
  simp [eqCore, Ent.core, and_assoc]
set_option maxRecDepth 100000 in
theorem sameM_0 (w : World) (x y : Ent) (h0 : x.id ≠ y.id) :
    Calls Try.prog 12 #[.agg x.cells, .agg y.cells] w fun e w' => e = .returned (.bool false) ∧ Upd [] w w' := by
  obtain ⟨xi, xf, xt, xv, xb⟩ := x
  obtain ⟨yi, yf, yt, yv, yb⟩ := y
  unfold Ent.cells
  simp only at *
  have e0 : (xi == yi) = false := by simp [h0]
  clear h0
  go_enter Try.func12, Try.ntmps12
  go_wp2_with (with_reducible refine arm_box (by with_unfolding_all exact rfl) ?_)
  intro b2 w2 hb2 k2 hU2 hz2
  change w2.heap[b2]? = some (.cells (msgC xi xf xt xv) 32 (0, 0)) at k2
  go_wp2_with (with_reducible refine arm_box (by with_unfolding_all exact rfl) ?_)
  intro b3 w3 hb3 k3 hU3 hz3
  change w3.heap[b3]? = some (.cells (msgC yi yf yt yv) 32 (0, 0)) at k3
  have k23 := hU3.heap k2 (by simp)
  have HU := Lib.hid (hU2.trans hU3)
  have p0 : w3.cell? ⟨b2, 0, none⟩ = some (.int .i64 xi) := by rw [cell_of_row _ _ _ _ _ _ k23]; rfl
  have p1 : w3.cell? ⟨b2, 1, none⟩ = some (.int .i64 xf) := by rw [cell_of_row _ _ _ _ _ _ k23]; rfl
  have p2 : w3.cell? ⟨b2, 2, none⟩ = some (.int .i64 xt) := by rw [cell_of_row _ _ _ _ _ _ k23]; rfl
  have p3 : w3.cell? ⟨b2, 3, none⟩ = some xv := by rw [cell_of_row _ _ _ _ _ _ k23]; rfl
  have q0 : w3.cell? ⟨b3, 0, none⟩ = some (.int .i64 yi) := by rw [cell_of_row _ _ _ _ _ _ k3]; rfl
  have q1 : w3.cell? ⟨b3, 1, none⟩ = some (.int .i64 yf) := by rw [cell_of_row _ _ _ _ _ _ k3]; rfl
  have q2 : w3.cell? ⟨b3, 2, none⟩ = some (.int .i64 yt) := by rw [cell_of_row _ _ _ _ _ _ k3]; rfl
  have q3 : w3.cell? ⟨b3, 3, none⟩ = some yv := by rw [cell_of_row _ _ _ _ _ _ k3]; rfl
  clear hb2 k2 hU2 hz2 hb3 k3 hU3 hz3 k23
  go_wp2_with (fail)
  go_ret
  exact ⟨rfl, HU.out⟩
set_option maxRecDepth 100000 in
theorem sameM_1 (w : World) (x y : Ent) (h0 : x.id = y.id) (h1 : x.fr ≠ y.fr) :
    Calls Try.prog 12 #[.agg x.cells, .agg y.cells] w fun e w' => e = .returned (.bool false) ∧ Upd [] w w' := by
  obtain ⟨xi, xf, xt, xv, xb⟩ := x
  obtain ⟨yi, yf, yt, yv, yb⟩ := y
  unfold Ent.cells
  simp only at *
  have e0 : (xi == yi) = true := by simp [h0]
  clear h0
  have e1 : (xf == yf) = false := by simp [h1]
  clear h1
  go_enter Try.func12, Try.ntmps12
  go_wp2_with (with_reducible refine arm_box (by with_unfolding_all exact rfl) ?_)
  intro b2 w2 hb2 k2 hU2 hz2
  change w2.heap[b2]? = some (.cells (msgC xi xf xt xv) 32 (0, 0)) at k2
  go_wp2_with (with_reducible refine arm_box (by with_unfolding_all exact rfl) ?_)
  intro b3 w3 hb3 k3 hU3 hz3
  change w3.heap[b3]? = some (.cells (msgC yi yf yt yv) 32 (0, 0)) at k3
  have k23 := hU3.heap k2 (by simp)
  have HU := Lib.hid (hU2.trans hU3)
  have p0 : w3.cell? ⟨b2, 0, none⟩ = some (.int .i64 xi) := by rw [cell_of_row _ _ _ _ _ _ k23]; rfl
  have p1 : w3.cell? ⟨b2, 1, none⟩ = some (.int .i64 xf) := by rw [cell_of_row _ _ _ _ _ _ k23]; rfl
  have p2 : w3.cell? ⟨b2, 2, none⟩ = some (.int .i64 xt) := by rw [cell_of_row _ _ _ _ _ _ k23]; rfl
  have p3 : w3.cell? ⟨b2, 3, none⟩ = some xv := by rw [cell_of_row _ _ _ _ _ _ k23]; rfl
  have q0 : w3.cell? ⟨b3, 0, none⟩ = some (.int .i64 yi) := by rw [cell_of_row _ _ _ _ _ _ k3]; rfl
  have q1 : w3.cell? ⟨b3, 1, none⟩ = some (.int .i64 yf) := by rw [cell_of_row _ _ _ _ _ _ k3]; rfl
  have q2 : w3.cell? ⟨b3, 2, none⟩ = some (.int .i64 yt) := by rw [cell_of_row _ _ _ _ _ _ k3]; rfl
  have q3 : w3.cell? ⟨b3, 3, none⟩ = some yv := by rw [cell_of_row _ _ _ _ _ _ k3]; rfl
  clear hb2 k2 hU2 hz2 hb3 k3 hU3 hz3 k23
  go_wp2_with (fail)
  go_ret
  exact ⟨rfl, HU.out⟩
set_option maxRecDepth 100000 in
theorem sameM_2 (w : World) (x y : Ent) (h0 : x.id = y.id) (h1 : x.fr = y.fr) (h2 : x.to ≠ y.to) :
    Calls Try.prog 12 #[.agg x.cells, .agg y.cells] w fun e w' => e = .returned (.bool false) ∧ Upd [] w w' := by
  obtain ⟨xi, xf, xt, xv, xb⟩ := x
  obtain ⟨yi, yf, yt, yv, yb⟩ := y
  unfold Ent.cells
  simp only at *
  have e0 : (xi == yi) = true := by simp [h0]
  have e1 : (xf == yf) = true := by simp [h1]
  clear h0 h1
  have e2 : (xt == yt) = false := by simp [h2]
  clear h2
  go_enter Try.func12, Try.ntmps12
  go_wp2_with (with_reducible refine arm_box (by with_unfolding_all exact rfl) ?_)
  intro b2 w2 hb2 k2 hU2 hz2
  change w2.heap[b2]? = some (.cells (msgC xi xf xt xv) 32 (0, 0)) at k2
  go_wp2_with (with_reducible refine arm_box (by with_unfolding_all exact rfl) ?_)
  intro b3 w3 hb3 k3 hU3 hz3
  change w3.heap[b3]? = some (.cells (msgC yi yf yt yv) 32 (0, 0)) at k3
  have k23 := hU3.heap k2 (by simp)
  have HU := Lib.hid (hU2.trans hU3)
  have p0 : w3.cell? ⟨b2, 0, none⟩ = some (.int .i64 xi) := by rw [cell_of_row _ _ _ _ _ _ k23]; rfl
  have p1 : w3.cell? ⟨b2, 1, none⟩ = some (.int .i64 xf) := by rw [cell_of_row _ _ _ _ _ _ k23]; rfl
  have p2 : w3.cell? ⟨b2, 2, none⟩ = some (.int .i64 xt) := by rw [cell_of_row _ _ _ _ _ _ k23]; rfl
  have p3 : w3.cell? ⟨b2, 3, none⟩ = some xv := by rw [cell_of_row _ _ _ _ _ _ k23]; rfl
  have q0 : w3.cell? ⟨b3, 0, none⟩ = some (.int .i64 yi) := by rw [cell_of_row _ _ _ _ _ _ k3]; rfl
  have q1 : w3.cell? ⟨b3, 1, none⟩ = some (.int .i64 yf) := by rw [cell_of_row _ _ _ _ _ _ k3]; rfl
  have q2 : w3.cell? ⟨b3, 2, none⟩ = some (.int .i64 yt) := by rw [cell_of_row _ _ _ _ _ _ k3]; rfl
  have q3 : w3.cell? ⟨b3, 3, none⟩ = some yv := by rw [cell_of_row _ _ _ _ _ _ k3]; rfl
  clear hb2 k2 hU2 hz2 hb3 k3 hU3 hz3 k23
  go_wp2_with (fail)
  go_ret
  exact ⟨rfl, HU.out⟩
set_option maxRecDepth 100000 in
theorem sameM_3 (w : World) (x y : Ent) (h0 : x.id = y.id) (h1 : x.fr = y.fr) (h2 : x.to = y.to) (hx : RdB w x.v x.b) (hy : RdB w y.v y.b) (hl : x.b.length ≤ 1000000) (hm : y.b.length ≤ 1000000) :
    Calls Try.prog 12 #[.agg x.cells, .agg y.cells] w fun e w' => e = .returned (.bool (x.b == y.b)) ∧ Upd [] w w' := by
  obtain ⟨xi, xf, xt, xv, xb⟩ := x
  obtain ⟨yi, yf, yt, yv, yb⟩ := y
  unfold Ent.cells
  simp only at *
  have e0 : (xi == yi) = true := by simp [h0]
  have e1 : (xf == yf) = true := by simp [h1]
  have e2 : (xt == yt) = true := by simp [h2]
  clear h0 h1 h2
  have HX := Lib.hid hx
  have HY := Lib.hid hy
  have HL := Lib.hid hl
  have HM := Lib.hid hm
  clear hx hy hl hm
  go_enter Try.func12, Try.ntmps12
  go_wp2_with (with_reducible refine arm_box (by with_unfolding_all exact rfl) ?_)
  intro b2 w2 hb2 k2 hU2 hz2
  change w2.heap[b2]? = some (.cells (msgC xi xf xt xv) 32 (0, 0)) at k2
  go_wp2_with (with_reducible refine arm_box (by with_unfolding_all exact rfl) ?_)
  intro b3 w3 hb3 k3 hU3 hz3
  change w3.heap[b3]? = some (.cells (msgC yi yf yt yv) 32 (0, 0)) at k3
  have k23 := hU3.heap k2 (by simp)
  have HU := Lib.hid (hU2.trans hU3)
  have p0 : w3.cell? ⟨b2, 0, none⟩ = some (.int .i64 xi) := by rw [cell_of_row _ _ _ _ _ _ k23]; rfl
  have p1 : w3.cell? ⟨b2, 1, none⟩ = some (.int .i64 xf) := by rw [cell_of_row _ _ _ _ _ _ k23]; rfl
  have p2 : w3.cell? ⟨b2, 2, none⟩ = some (.int .i64 xt) := by rw [cell_of_row _ _ _ _ _ _ k23]; rfl
  have p3 : w3.cell? ⟨b2, 3, none⟩ = some xv := by rw [cell_of_row _ _ _ _ _ _ k23]; rfl
  have q0 : w3.cell? ⟨b3, 0, none⟩ = some (.int .i64 yi) := by rw [cell_of_row _ _ _ _ _ _ k3]; rfl
  have q1 : w3.cell? ⟨b3, 1, none⟩ = some (.int .i64 yf) := by rw [cell_of_row _ _ _ _ _ _ k3]; rfl
  have q2 : w3.cell? ⟨b3, 2, none⟩ = some (.int .i64 yt) := by rw [cell_of_row _ _ _ _ _ _ k3]; rfl
  have q3 : w3.cell? ⟨b3, 3, none⟩ = some yv := by rw [cell_of_row _ _ _ _ _ _ k3]; rfl
  clear hb2 k2 hU2 hz2 hb3 k3 hU3 hz3 k23
  go_wp2_with (fail)
  refine (same24 _ xv yv xb yb (HX.out.upd0 HU.out) (HY.out.upd0 HU.out) (by have := HL.out; omega) (by have := HM.out; omega)).mono ?_
  rintro e w4 ⟨rfl, hU4⟩
  have HU4 := Lib.hid (HU.out.trans hU4)
  clear hU4 p0 p1 p2 p3 q0 q1 q2 q3
  go_wp2_with (fail)
  go_ret
  exact ⟨rfl, HU4.out⟩
theorem sameM_ (w : World) (x y : Ent) (hx : RdB w x.v x.b) (hy : RdB w y.v y.b) (hl : x.b.length ≤ 1000000) (hm : y.b.length ≤ 1000000) :
    Calls Try.prog 12 #[.agg x.cells, .agg y.cells] w fun e w' => e = .returned (.bool (eqCore x y)) ∧ Upd [] w w' := by
  unfold eqCore
  by_cases h0 : x.id = y.id
  · by_cases h1 : x.fr = y.fr
    · by_cases h2 : x.to = y.to
      · have := sameM_3 w x y h0 h1 h2 hx hy hl hm
        simpa [h0, h1, h2] using this
      · have := sameM_2 w x y h0 h1 h2
        simpa [h0, h1, h2] using this
    · have := sameM_1 w x y h0 h1
      simpa [h0, h1] using this
  · have := sameM_0 w x y h0
    simpa [h0] using this
/-- messages that can be read -/
structure RdM (w : World) (v : Value) (ts : List Ent) : Prop where
  row : RdA w 4 v (ts.map fun t => t.cells.toList)
  bodies : ∀ t ∈ ts, RdB w t.v t.b
theorem OwnM.rd {w : World} {B : Nat} {v : Value} {ts : List Ent} (h : OwnM w B v ts) : RdM w v ts := ⟨h.row.rd, fun t ht => (h.bodies t ht).rd⟩
theorem RdM.upd0 {w w' : World} {v : Value} {ts : List Ent} (h : RdM w v ts) (u : Upd [] w w') : RdM w' v ts := ⟨h.row.upd0 u, fun t ht => (h.bodies t ht).upd0 u⟩
theorem RdM.nil (w : World) : RdM w (.slice none 0 0) [] := ⟨RdA.nil _ _, by simp⟩
theorem elem_msgs : Try.prog.elem 33 = 32 := by kernel_rfl
theorem size_msg4 : (Try.prog.info? 32).map (·.size) = some 4 := by kernel_rfl
theorem size_msgL (x : Ent) : (Try.prog.info? 32).map (·.size) = some x.cells.toList.length := size_msg4
set_option maxRecDepth 100000 in
set_option maxHeartbeats 3200000 in
theorem sameL_ (w : World) (va vb : Value) (xs ys : List Ent) (ha : RdM w va xs) (hb : RdM w vb ys) (hl : ∀ x ∈ xs, x.b.length ≤ 1000000) (hm : ∀ y ∈ ys, y.b.length ≤ 1000000) (_ : xs.length ≤ 1000000) (hk : ys.length ≤ 1000000) :
    Calls Try.prog 20 #[va, vb] w fun e w' => e = .returned (.bool (decide (xs.map Ent.core = ys.map Ent.core))) ∧ Upd [] w w' := by
  obtain ⟨A, c, eA, _⟩ := ha.row.isSlice
  obtain ⟨B, d, eB, _⟩ := hb.row.isSlice
  rw [List.length_map] at eA eB
  subst eA eB
  by_cases hlen : xs.length = ys.length
  · obtain ⟨n, hnn⟩ : ∃ n, xs.length = n := ⟨_, rfl⟩
    rw [← hlen]
    rw [← hlen] at hb
    rw [hnn] at hlen ha hb ⊢
    have HA := Lib.hid ha
    have HB := Lib.hid hb
    have HL := Lib.hid hl
    have HM := Lib.hid hm
    have HNN : Hid (xs.length = n ∧ ys.length = n) := ⟨hnn, hlen.symm⟩
    have hni : (n : Int) ≤ 1000000 := by omega
    clear ha hb hl hm hnn hlen hk
    go_enter Try.func20, Try.ntmps20
    go_wp2_with (fail)
    go_loopw [5] (fun i wr => ∃ k : Nat, k ≤ n ∧ i = .int .i64 k ∧ (xs.take k).map Ent.core = (ys.take k).map Ent.core ∧ Upd [] w wr) (fun i _ => n - (intOf i).toNat)
    case atStart => exact ⟨0, Nat.zero_le _, rfl, by simp, Upd.refl _ _⟩
    case round =>
      obtain ⟨k, hk, rfl, heq, hU⟩ := hrel
      have HEQ := Lib.hid heq
      have HU := Lib.hid hU
      clear heq hU
      by_cases h : k < n
      · have hki : (k : Int) < (n : Int) := by omega
        have hkx : k < xs.length := by rw [HNN.out.1]; exact h
        have hky : k < ys.length := by rw [HNN.out.2]; exact h
        obtain ⟨x, hx⟩ : ∃ x, xs[k] = x := ⟨_, rfl⟩
        obtain ⟨y, hy⟩ : ∃ y, ys[k] = y := ⟨_, rfl⟩
        obtain ⟨g, p, c', e, _⟩ := RdA.at HA.out.row (by rw [List.length_map]; omega)
        injection e with e e1 e2
        clear e1 e2
        subst e
        obtain ⟨g', p', d', e, _⟩ := RdA.at HB.out.row (by rw [List.length_map]; omega)
        injection e with e e1 e2
        clear e1 e2
        subst e
        have hEx := RdA.elem HA.out.row k (by rw [List.length_map]; exact hkx)
        have hEy := RdA.elem HB.out.row k (by rw [List.length_map]; exact hky)
        simp only [List.getElem_map, hx, hy] at hEx hEy
        have HX : Hid (∀ W, Upd [] wr W → W.rangeAt g (p + k * 4) x.cells.toList) := fun W hW => rangeAt_upd hEx (HU.out.trans hW) (by simp)
        have HY : Hid (∀ W, Upd [] wr W → W.rangeAt g' (p' + k * 4) y.cells.toList) := fun W hW => rangeAt_upd hEy (HU.out.trans hW) (by simp)
        have HS : Hid (∀ W, Upd [] wr W → Calls Try.prog 12 #[.agg x.cells.toList.toArray, .agg y.cells.toList.toArray] W fun e w' => e = .returned (.bool (eqCore x y)) ∧ Upd [] W w') := fun W hW =>
          sameM_ W x y ((HA.out.bodies x (by rw [← hx]; exact List.getElem_mem hkx)).upd0 (HU.out.trans hW)) ((HB.out.bodies y (by rw [← hy]; exact List.getElem_mem hky)).upd0 (HU.out.trans hW)) (HL.out x (by rw [← hx]; exact List.getElem_mem hkx)) (HM.out y (by rw [← hy]; exact List.getElem_mem hky))
        have HT : Hid ((xs.take (k + 1)).map Ent.core = (xs.take k).map Ent.core ++ [x.core] ∧ (ys.take (k + 1)).map Ent.core = (ys.take k).map Ent.core ++ [y.core]) := by
          constructor
          · rw [take_snoc' xs k hkx, List.map_append, hx]; rfl
          · rw [take_snoc' ys k hky, List.map_append, hy]; rfl
        have hsx := size_msgL x
        have hsy := size_msgL y
        obtain ⟨kx, hkx4⟩ : ∃ q, p + k * 4 = q := ⟨_, rfl⟩
        obtain ⟨ky, hky4⟩ : ∃ q, p' + k * 4 = q := ⟨_, rfl⟩
        rw [hkx4] at HX
        rw [hky4] at HY
        have HKX := Lib.hid hkx4
        have HKY := Lib.hid hky4
        clear hEx hEy hx hy hkx hky hkx4 hky4
        go_upto_region 6 with (fail)
        go_simp
        refine wp_region_quiet_tail 8 (Upd [] wr) (by kernel_rfl) (by kernel_rfl) (Upd.refl _ _).drew ?_
        simp only [List.take_succ_cons, List.take_zero, List.drop_succ_cons, List.drop_zero]
        repeat (first
          | (refine wpQuiet_valK rfl (quiet_load_mid 32 _ rfl g kx rfl _ HX.out Try.underlying32 rfl hsx) (fun K hK => ?_); go_simp; refine hK _ ?_; clear hK K)
          | (refine wpQuiet_valK rfl (quiet_load_mid 32 _ rfl g' ky rfl _ HY.out Try.underlying32 rfl hsy) (fun K hK => ?_); go_simp; refine hK _ ?_; clear hK K)
          | (refine wpQuiet_valK rfl (quiet_of_yields (yields_index Try.underlying33 elem_msgs size_msg4 (g := g) rfl rfl rfl h HKX.out)) (fun K hK => ?_); go_simp; refine hK _ ?_; clear hK K)
          | (refine wpQuiet_valK rfl (quiet_of_yields (yields_index Try.underlying33 elem_msgs size_msg4 (g := g') rfl rfl rfl h HKY.out)) (fun K hK => ?_); go_simp; refine hK _ ?_; clear hK K)
          | (refine wpQuiet_step (fun K hK => ?_)
             go_simp
             first
               | (refine ⟨_, fun _ _ => rfl, hK _ ?_⟩; clear hK K)
               | (refine hK _ ?_; clear hK K)))
        refine wpQuiet_nil ?_
        intro wj hUj
        go_wp2_with (fail)
        with_reducible refine (HS.out _ hUj).mono ?_
        rintro e wk ⟨rfl, hUk⟩
        have HUk := Lib.hid ((HU.out.trans hUj).trans hUk)
        clear hUj hUk HS HX HY hsx hsy
        cases hq : eqCore x y with
        | true =>
          have HC := Lib.hid ((eqCore_iff x y).1 hq)
          clear hq
          go_wp2_with (fail)
          go_roundw
          case rel => exact ⟨k + 1, by omega, by go_num, by rw [HT.out.1, HT.out.2, HEQ.out, HC.out], HUk.out⟩
          case measure => simp [intOf]; omega
        | false =>
          have HC : Hid (x.core ≠ y.core) := fun e => by rw [(eqCore_iff x y).2 e] at hq; cases hq
          clear hq
          go_wp2_with (fail)
          go_ret
          refine ⟨ret_eq (congrArg Value.bool ?_), HUk.out⟩
          symm
          rw [decide_eq_false_iff_not]
          intro e
          have h1 := congrArg (fun l => l.take (k + 1)) e
          simp only [← List.map_take, HT.out.1, HT.out.2] at h1
          rw [HEQ.out] at h1
          exact HC.out (by simpa using h1)
      · have hki : ¬ (k : Int) < (n : Int) := by omega
        go_wp2_with (fail)
        go_ret
        refine ⟨ret_eq (congrArg Value.bool ?_), HU.out⟩
        have h1 := HEQ.out
        rw [List.take_of_length_le (by have := HNN.out; omega), List.take_of_length_le (by have := HNN.out; omega)] at h1
        simp [h1]
  · have hne : decide (xs.map Ent.core = ys.map Ent.core) = false := by
      rw [decide_eq_false_iff_not]
      intro e
      exact hlen (by simpa using congrArg List.length e)
    have HE := Lib.hid hne
    have hlen' : ¬ ((xs.length : Int) = ys.length) := by omega
    clear ha hb hne
    go_enter Try.func20, Try.ntmps20
    go_wp2_with (fail)
    go_ret
    exact ⟨ret_eq (by rw [HE.out]; rfl), Upd.refl _ _⟩
end Go.Proofs.Ytjeddokenpkpnaa
