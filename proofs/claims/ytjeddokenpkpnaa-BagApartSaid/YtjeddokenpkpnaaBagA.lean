/-
  bytes.Clone and own: a message that shares nothing; a bag in memory; New, Len, Room.
-/
import Derived.Test.YtjeddokenpkpnaaCopy
import Derived.Test.YtjeddokenpkpnaaGen
import Derived.Maps.OwnSet
import Derived.Maps.RangeWalk
namespace Go.Proofs.Ytjeddokenpkpnaa
open Go Go.RowKit Go.Proofs Go.Maps
theorem own_empty (w : World) : OwnB (w.alloc (.cells #[] 5)) w.heap.size (.slice (some ⟨w.heap.size, 0, none⟩) 0 0) [] :=
  ⟨by simp, .inr ⟨w.heap.size, 0, #[], rfl, Nat.le_refl _, hget_new rfl, by simp, by simp [maxLen], by simp, by simp⟩⟩
set_option maxRecDepth 100000 in
theorem clone_ (w : World) (v : Value) (l : List (BitVec 8)) (h : RdB w v l) (hl : l.length ≤ 1000000) :
    Calls Try.prog 43 #[v] w fun e w' => ∃ v', e = .returned v' ∧ OwnB w' w.heap.size v' l ∧ Upd [] w w' := by
  obtain ⟨A, c, e, h1, h2, h3⟩ := id h
  have H := Lib.hid h
  have H3 := Lib.hid h3
  have HL := Lib.hid hl
  subst e
  clear h h3
  cases A with
  | none =>
    have hn : l = [] := by
      rcases Nat.eq_zero_or_pos l.length with h0 | h0
      · exact List.eq_nil_of_length_eq_zero h0
      · obtain ⟨g, p, e, _⟩ := H3.out h0; cases e
    subst hn
    go_enter Try.func43, Try.ntmps43
    go_wp2_with (fail)
    go_ret
    exact ⟨_, rfl, OwnB.nil _ _, Upd.refl _ _⟩
  | some A =>
    clear hl
    go_enter Try.func43, Try.ntmps43
    go_wp2_with (refine append_rd rfl _ _ rfl w.heap.size _ [] (by with_unfolding_all exact rfl) (own_empty _) _ l (by with_unfolding_all exact rfl) (H.out.alloc _) (by have := HL.out; simp; omega) (by simp) ?_)
    intro v' w' h1 h2 h3 h4
    go_wp2_with (fail)
    go_ret
    refine ⟨v', rfl, by simpa using h1, ((Upd.refl _ w).alloc _).trans' h3 (fun i hm hl => ?_)⟩
    simp [Value.ownBlock] at hm
    omega
def msgC (id fr to : Int) (v : Value) : Array Value := #[.int .i64 id, .int .i64 fr, .int .i64 to, v]
theorem size_msg (id fr to : Int) (v : Value) : (Try.prog.info? 32).map (·.size) = some (msgC id fr to v).size := by
  have : (Try.prog.info? 32).map (·.size) = some 4 := by kernel_rfl
  rw [this]; rfl
theorem zero_msg (w : World) : (zeroValue 32).run Try.prog w = .ok (.agg (msgC 0 0 0 (.slice none 0 0))) w := by kernel_rfl
theorem size_bytes1 : (Try.prog.info? 27).map (·.size) = some 1 := by kernel_rfl
theorem size_int1 : (Try.prog.info? 3).map (·.size) = some 1 := by kernel_rfl
theorem one_msg (id fr to : Int) {v : Value} (hv : v.oneCell' = true) : (msgC id fr to v).all (·.oneCell') = true := by cases v <;> simp_all [msgC, Value.oneCell']
theorem results_agg_tmp {P : Program} {fn : Func} {p u : Tmp} {ty : TypeId} (h : fn.results = #[.cell p ty, .tmp u]) (tmps : Array Value) (w : World) (g : Nat) (t : TypeId) (cs : Array Value) (fr : Nat × Nat) (d : TypeDesc)
    (hp : tmps.getD p undef = .pointer (some ⟨g, 0, none⟩)) (hg : w.heap[g]? = some (.cells cs t fr))
    (hu : P.underlying ty = some d) (hd : (match d with | .struct _ | .array _ _ => true | _ => false) = true) (hi : (P.info? ty).map (·.size) = some cs.size) {x : Value} (hx : tmps.getD u undef = x) :
    (results fn tmps).run P w = .ok (.tuple #[.agg cs, x]) w := by
  rw [results_cell_tmp h, hp, hx]
  simp [asAddr, run_loadVar_row w g t ty cs fr d hg hu hd hi, Result.andThen]
set_option maxRecDepth 100000 in
theorem own_ (w : World) (id fr to : Int) (v : Value) (l : List (BitVec 8)) (h : RdB w v l) (hl : l.length ≤ 1000000) :
    Calls Try.prog 32 #[.agg (msgC id fr to v)] w fun e w' => ∃ v', e = .returned (.agg (msgC id fr to v')) ∧ OwnB w' w.heap.size v' l ∧ Upd [] w w' := by
  have H := Lib.hid h
  have HL := Lib.hid hl
  have HV : Hid (∃ a c, v = .slice a l.length c) := by obtain ⟨a, c, e, _⟩ := h.isSlice; exact ⟨a, c, e⟩
  have hsz := size_msg id fr to v
  clear h hl
  go_enter Try.func32, Try.ntmps32
  go_wp2_with (first
    | (with_reducible refine arm_box (by with_unfolding_all exact rfl) ?_))
  intro b1 w1 hb1 k1 hU1 hz1
  change w1.heap[b1]? = some (.cells (msgC id fr to v) 32 (0, 0)) at k1
  go_wp2_with (with_reducible refine arm_alloc (zero_msg _) ?_)
  intro b2 w2 hb2 k2 hU2 hz2
  change w2.heap[b2]? = some (.cells (msgC 0 0 0 (.slice none 0 0)) 32 (0, 0)) at k2
  have k12 := hU2.heap k1 (by simp)
  have hV2 := hU1.trans hU2
  have hlb : w.heap.size ≤ b1 ∧ w.heap.size ≤ b2 ∧ b1 ≠ b2 := ⟨by omega, by have := hU1.size; omega, by have := lt_of_heap k1; omega⟩
  have c3 : w2.cell? ⟨b1, 3, none⟩ = some v := by rw [cell_of_row _ _ _ _ _ _ k12]; rfl
  clear hb1 k1 hU1 hz1 hb2 hU2 hz2
  go_wp2_with (fail)
  refine (clone_ _ _ l (H.out.upd0 hV2) HL.out).mono ?_
  rintro e w3 ⟨v', rfl, ho3, hU3⟩
  have k13 := hU3.heap k12 (by simp)
  have k23 := hU3.heap k2 (by simp)
  have hV3 := hV2.trans hU3
  have ho : Hid (OwnB w3 w.heap.size v' l) := ho3.mono (fun k hk => by have := (ho3.lt k hk).1; have := hV2.size; omega)
  have hv1 : Hid (∃ g n c, v' = .slice g n c) := by obtain ⟨a, c, e⟩ := ho3.isSlice; exact ⟨_, _, _, e⟩
  have hlt3 : Hid (b1 < w3.heap.size ∧ b2 < w3.heap.size) := ⟨lt_of_heap k13, lt_of_heap k23⟩
  have hlt2 : b1 < w2.heap.size ∧ b2 < w2.heap.size := ⟨lt_of_heap k12, lt_of_heap k2⟩
  have hnb : Hid (∀ k, v'.ownBlock = some k → k ≠ b1 ∧ k ≠ b2) := fun k hk => by have := (ho3.lt k hk).1; omega
  have hvc : v'.cells = #[v'] ∧ v'.oneCell' = true := by obtain ⟨a, b, c, rfl⟩ := hv1.out; exact ⟨rfl, rfl⟩
  clear c3 ho3 k12 k2 hU3 hV2 hlt2
  go_wp2_with (with_reducible refine arm_store_at (by with_unfolding_all exact rfl) (by with_unfolding_all exact rfl) k13 (by simp [msgC]) hvc.1 size_bytes1 hvc.2 ?_)
  intro w4 k14 hX4 hz4
  change w4.heap[b1]? = some (.cells (msgC id fr to v') 32 (0, 0)) at k14
  have k24 := hX4.heap k23 (fun hm => hlb.2.2 (List.mem_singleton.1 hm).symm)
  have hs4 := size_msg id fr to v'
  clear k13 k23
  go_wp2_with (first
    | (with_reducible refine arm_load (by with_unfolding_all exact rfl) k14 Try.underlying32 (by with_unfolding_all exact rfl) hs4 ?_)
    | (with_reducible refine arm_store (by with_unfolding_all exact rfl) (by with_unfolding_all exact rfl) k24 hs4 (by with_unfolding_all exact rfl) (one_msg id fr to hvc.2) ?_))
  intro w5 k25 hX5 hz5
  go_wp2_with (fail)
  refine bodyPost_ret (v := .agg (msgC id fr to v')) (results_cell_row rfl _ _ b2 32 _ (0, 0) _ rfl k25 Try.underlying32 rfl hs4) rfl ?_
  refine ⟨v', rfl, (ho.out.upd hX4 (fun k hk hm => (hnb.out k hk).1 (List.mem_singleton.1 hm))).upd hX5 (fun k hk hm => (hnb.out k hk).2 (List.mem_singleton.1 hm)), (hV3.trans' hX4 (fun i hm hl => ?_)).trans' hX5 (fun i hm hl => ?_)⟩
  · have := List.mem_singleton.1 hm; omega
  · have := List.mem_singleton.1 hm; omega
end Go.Proofs.Ytjeddokenpkpnaa
