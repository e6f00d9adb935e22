/-
  Put, Double, Get, Take of a bag.
-/
import Derived.Test.YtjeddokenpkpnaaBagP
namespace Go.Proofs.Ytjeddokenpkpnaa
open Go Go.RowKit Go.Proofs Go.Maps
set_option maxRecDepth 100000 in
theorem put_ (w : World) (lo bb bm last : Nat) (es : List Ent) (D : DataW Value) (h : BagAt w lo bb bm last es D) (id fr to : Int) (v : Value) (l : List (BitVec 8)) (hv : RdB w v l) (hl : l.length ≤ 1024) (hlast : last ≤ 100000) (hroom : es.length < 4096) :
    Calls Try.prog 9 #[.pointer (some ⟨bb, 0, none⟩), .agg (msgC id fr to v)] w (Laid w lo bb bm last es fr to l) := by
  obtain ⟨A, c, e, _⟩ := hv.isSlice
  subst e
  have hd : (l.length : Int) ≤ 1024 := by omega
  have hsz := size_msg id fr to (.slice A l.length c)
  have H := Lib.hid h
  have HV := Lib.hid hv
  have HL := Lib.hid hl
  have HR := Lib.hid hroom
  have HLA := Lib.hid hlast
  clear h hv hl hroom hlast
  go_enter Try.func9, Try.ntmps9
  go_wp2_with (with_reducible refine arm_box (by with_unfolding_all exact rfl) ?_)
  intro bx w1 hb1 k1 hU1 hz1
  change w1.heap[bx]? = some (.cells (msgC id fr to (.slice A l.length c)) 32 (0, 0)) at k1
  have HU1 := Lib.hid hU1
  have c3 : w1.cell? ⟨bx, 3, none⟩ = some (.slice A l.length c) := by rw [cell_of_row _ _ _ _ _ _ k1]; rfl
  clear hU1 hz1 hb1
  go_wp2_with (with_reducible refine arm_load (by with_unfolding_all exact rfl) k1 Try.underlying32 (by with_unfolding_all exact rfl) hsz ?_)
  refine (add_ _ lo bb bm last es D (H.out.upd0 HU1.out) id fr to _ l (HV.out.upd0 HU1.out) HL.out HLA.out HR.out).mono ?_
  rintro e w3 ⟨v', D', rfl, hB3, hn3, hU3⟩
  have HB3 := Lib.hid hB3
  have HN3 := Lib.hid hn3
  have HU3 := Lib.hid hU3
  clear hB3 hn3 hU3 hd c3 k1
  go_wp2_with (fail)
  refine bodyPost_ret (results_tmp2 rfl _ _ _) rfl ?_
  exact Laid.of ⟨v', D', rfl, HB3.out, HN3.out, HU3.out⟩ HU1.out
set_option maxRecDepth 100000 in
theorem put_full (w : World) (lo bb bm last : Nat) (es : List Ent) (D : DataW Value) (h : BagAt w lo bb bm last es D) (id fr to : Int) (v : Value) (l : List (BitVec 8)) (hv : RdB w v l) (hl : l.length ≤ 1024) (hroom : es.length = 4096) :
    Calls Try.prog 9 #[.pointer (some ⟨bb, 0, none⟩), .agg (msgC id fr to v)] w fun e w' => e = .returned (.tuple #[.int .i64 0, .int .i64 241]) ∧ Upd [] w w' := by
  obtain ⟨A, c, e, _⟩ := hv.isSlice
  subst e
  have hd : (l.length : Int) ≤ 1024 := by omega
  have hsz := size_msg id fr to (.slice A l.length c)
  have H := Lib.hid h
  have HR := Lib.hid hroom
  clear h hv hl hroom
  go_enter Try.func9, Try.ntmps9
  go_wp2_with (with_reducible refine arm_box (by with_unfolding_all exact rfl) ?_)
  intro bx w1 hb1 k1 hU1 hz1
  change w1.heap[bx]? = some (.cells (msgC id fr to (.slice A l.length c)) 32 (0, 0)) at k1
  have HU1 := Lib.hid hU1
  have c3 : w1.cell? ⟨bx, 3, none⟩ = some (.slice A l.length c) := by rw [cell_of_row _ _ _ _ _ _ k1]; rfl
  clear hU1 hz1 hb1
  go_wp2_with (with_reducible refine arm_load (by with_unfolding_all exact rfl) k1 Try.underlying32 (by with_unfolding_all exact rfl) hsz ?_)
  refine (add_full _ lo bb bm last es D (H.out.upd0 HU1.out) id fr to _ HR.out).mono ?_
  rintro e w3 ⟨rfl, hU3⟩
  have HU3 := Lib.hid hU3
  clear hU3 hd c3 k1
  go_wp2_with (fail)
  refine bodyPost_ret (results_tmp2 rfl _ _ _) rfl ?_
  exact ⟨rfl, HU1.out.trans HU3.out⟩
set_option maxRecDepth 100000 in
theorem put_long (w : World) (p : Value) (id fr to : Int) (v : Value) (l : List (BitVec 8)) (hv : RdB w v l) (hl : 1024 < l.length) :
    Calls Try.prog 9 #[p, .agg (msgC id fr to v)] w fun e w' => e = .returned (.tuple #[.int .i64 0, .int .i64 1]) ∧ Upd [] w w' := by
  obtain ⟨A, c, e, _⟩ := hv.isSlice
  subst e
  have hd : (1024 : Int) < (l.length : Int) := by omega
  clear hv hl
  go_enter Try.func9, Try.ntmps9
  go_wp2_with (with_reducible refine arm_box (by with_unfolding_all exact rfl) ?_)
  intro bx w1 hb1 k1 hU1 hz1
  change w1.heap[bx]? = some (.cells (msgC id fr to (.slice A l.length c)) 32 (0, 0)) at k1
  have HU1 := Lib.hid hU1
  have c3 : w1.cell? ⟨bx, 3, none⟩ = some (.slice A l.length c) := by rw [cell_of_row _ _ _ _ _ _ k1]; rfl
  clear hU1 hz1 hb1 k1
  go_wp2_with (fail)
  refine bodyPost_ret (results_tmp2 rfl _ _ _) rfl ?_
  exact ⟨rfl, HU1.out⟩
/-- the look-up, known -/
theorem arm_look {ops : Array Oper} {rest : List Oper} {o : Oper} {a : Act} {w : World} {Q : Exit → Act → World → Prop} (hg : o.guard = none) (m x : Operand) (hop : o.op = Op.lookup 67 m x true) (bm n : Nat) (D : DataW Value) (hm : a.eval m = .map (some bm)) (hown : w.ownsMap Try.prog 3 readV bm n D)
    (id : Int) (hid : wfI id) (hx : a.eval x = .int .i64 id) (c : Array Value) (hc : D.atKey (.int .i64 id) (.held (.agg (msgC 0 0 0 (.slice none 0 0)))) = .held (.agg c)) (b : Bool) (hb : Maps.has D (.int .i64 id) = b)
    (h : wpList Try.prog ops Q rest (a.put o.dst (.tuple #[.agg c, .bool b])) w) : wpList Try.prog ops Q (o :: rest) a w := by
  refine wpList_lookup_own_ok w hg m x 67 hop 3 32 law Try.underlying67 readV (zero_msg w) (.held (.agg (msgC 0 0 0 (.slice none 0 0)))) [] rfl bm n D hm hown _ _ hx (hkey hid) (fun v ps hv => ?_)
  rw [hc] at hv
  unfold readV at hv
  injection hv with hv
  injection hv with hv
  injection hv with hv
  rw [hv, hb]
  exact h
set_option maxRecDepth 100000 in
theorem double_none (w : World) (lo bb bm last : Nat) (es : List Ent) (D : DataW Value) (h : BagAt w lo bb bm last es D) (id : Int) (hid : wfI id) (hf : findE es id = none) :
    Calls Try.prog 28 #[.pointer (some ⟨bb, 0, none⟩), .int .i64 id] w fun e w' => e = .returned (.tuple #[.int .i64 0, .int .i64 240]) ∧ Upd [] w w' := by
  have c0 : w.cell? ⟨bb, 0, none⟩ = some (.map (some bm)) := by rw [cell_of_row _ _ _ _ _ _ h.cells]; rfl
  have hm := h.map
  have hhas : Maps.has D (.int .i64 id) = false := by rw [h.of.has, hf]; rfl
  have hat := atKey_of_not_has hhas (DataW.held (.agg (msgC 0 0 0 (.slice none 0 0))))
  have hz := size_msg 0 0 0 (.slice none 0 0)
  clear h
  go_enter Try.func28, Try.ntmps28
  go_wp2_with (first
    | (at_lookup; refine arm_look rfl _ _ rfl bm es.length D (by with_unfolding_all exact rfl) hm id hid (by with_unfolding_all exact rfl) _ hat _ hhas ?_)
    | (with_reducible refine arm_alloc (zero_msg _) ?_))
  intro b2 w2 hb2 k2 hU2 hz2
  change w2.heap[b2]? = some (.cells (msgC 0 0 0 (.slice none 0 0)) 32 (0, 0)) at k2
  have HU2 := Lib.hid hU2
  have HLB : Hid (w.heap.size ≤ b2) := by show w.heap.size ≤ b2; omega
  clear hb2 hU2 hz2 hhas hat hm c0
  go_wp2_with (with_reducible refine arm_store (by with_unfolding_all exact rfl) (by with_unfolding_all exact rfl) k2 hz (by with_unfolding_all exact rfl) (one_msg _ _ _ rfl) ?_)
  intro w3 k3 hX3 hz3
  have HX3 := Lib.hid hX3
  clear k2 hX3 hz3
  go_wp2_with (fail)
  refine bodyPost_ret (results_tmp2 rfl _ _ _) rfl ?_
  exact ⟨rfl, HU2.out.trans' HX3.out (fun i hm hl => by have := List.mem_singleton.1 hm; have := HLB.out; omega)⟩
end Go.Proofs.Ytjeddokenpkpnaa
