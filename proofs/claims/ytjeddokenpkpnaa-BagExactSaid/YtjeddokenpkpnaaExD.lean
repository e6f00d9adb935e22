/-
  step of package 24's law.
-/
import Derived.Test.YtjeddokenpkpnaaExC
import Derived.Test.YtjeddokenpkpnaaPlayG
namespace Go.Proofs.Ytjeddokenpkpnaa
open Go Go.RowKit Go.Proofs Go.Maps
/-- both, and the shelf -/
def ExS (w w0 : World) (lo bb bm bs : Nat) (v : Value) (last : Nat) : Prop := ∃ es ks D m q b, ExAt w w0 lo bb bm v last es ks D ∧ ShelfAt w lo bs m q b es
theorem ExS.upd0 {w w' w0 : World} {lo bb bm bs : Nat} {v : Value} {last : Nat} (h : ExS w w0 lo bb bm bs v last) (u : Upd [] w w') : ExS w' w0 lo bb bm bs v last := by
  obtain ⟨es, ks, D, m, q, b, h1, h2⟩ := h
  exact ⟨es, ks, D, m, q, b, h1.upd0 u, h2.upd0 u⟩
/-- what a step answers -/
def StepAns (w w0 : World) (lo bb bm bs : Nat) (S : List Nat) (last n : Nat) (e : Ending) (w' : World) : Prop :=
  ∃ v' last', e = .returned (.tuple #[.agg (refC v' (last' : Nat)), .bool true]) ∧ ExS w' w0 lo bb bm bs v' last' ∧ last' ≤ last + n ∧ Upd S w w'
theorem put24_ (w w0 : World) (lo bb bm : Nat) (v : Value) (last : Nat) (es ks : List Ent) (D : DataW Value) (h : ExAt w w0 lo bb bm v last es ks D) (hla : last ≤ 100000) (m : Ent) (hv : RdB w0 m.v m.b) (hb3 : m.b.length ≤ 3000) :
    Calls Try.prog 33 #[.pointer (some ⟨bb, 0, none⟩), .agg (refC v last), .agg m.cells] w (BothAns w w0 lo bb bm last es) := by
  have hr := h.bag.room
  by_cases hb : 1024 < m.b.length
  · exact put24_long w w0 lo bb bm v last es ks D h hla m hv hb3 hb
  · rcases Nat.lt_or_eq_of_le hr with hr | hr
    · exact put24_ok w w0 lo bb bm v last es ks D h hla m hv hb3 (by omega) hr
    · exact put24_full w w0 lo bb bm v last es ks D h hla m hv hb3 (by omega) hr
theorem ExAt.vo {w w0 : World} {lo bb bm : Nat} {v : Value} {last : Nat} {es ks : List Ent} {D : DataW Value} (h : ExAt w w0 lo bb bm v last es ks D) : v.oneCell' = true := by
  obtain ⟨a, q, e⟩ := OwnA.isSlice h.row; rw [e]; rfl
theorem ExAt.notbag {w w0 : World} {lo bb bm : Nat} {v : Value} {last : Nat} {es ks : List Ent} {D : DataW Value} (h : ExAt w w0 lo bb bm v last es ks D) {k : Nat} {C : Array Value} {T : TypeId} {fr : Nat × Nat} (h1 : w.heap[k]? = some (.cells C T fr)) (h2 : T ≠ 71) : k ∉ [bb, bm] := fun hm => by
  simp only [List.mem_cons, List.not_mem_nil, or_false] at hm
  rcases hm with rfl | rfl
  · exact heap_ne h1 h.bag.cells h2 rfl
  · exact map_ne h.bag.map h1 rfl
theorem ExAt.lows {w w0 : World} {lo bb bm : Nat} {v : Value} {last : Nat} {es ks : List Ent} {D : DataW Value} (h : ExAt w w0 lo bb bm v last es ks D) : lo ≤ w.heap.size := by
  have := h.bag.low; have := lt_of_heap h.bag.cells; omega
/-- a write of a block of a bag of the document's that is ours -/
theorem ExAt.local {w w' w0 : World} {lo bb bm : Nat} {v : Value} {last : Nat} {es ks : List Ent} {D : DataW Value} {g : Nat} {C : Array Value} {T : TypeId} {fr : Nat × Nat} (h : ExAt w w0 lo bb bm v last es ks D) (u : Upd [g] w w') (hg : w.heap[g]? = some (.cells C T fr)) (h1 : T ≠ 71) (h2 : T ≠ 32) (h3 : T ≠ 5) (hl : lo ≤ g) : ExAt w' w0 lo bb bm v last es ks D :=
  h.off u (fun k hk => by
    rw [List.mem_singleton.1 hk]
    exact ⟨hl, ⟨C, T, fr, hg, h1, h2⟩, fun _ he hk2 => cells_ne (h.bag.rows _ he) hg h3 hk2⟩)
theorem ShelfAt.local {w w' : World} {lo bs : Nat} {m q : Ent} {b : Bool} {es : List Ent} {g : Nat} {C : Array Value} {T : TypeId} {fr : Nat × Nat} (h : ShelfAt w lo bs m q b es) (u : Upd [g] w w') (hg : w.heap[g]? = some (.cells C T fr)) (h1 : T ≠ 48) (h3 : T ≠ 5) : ShelfAt w' lo bs m q b es :=
  h.upd u (fun hm => heap_ne hg h.cells h1 (List.mem_singleton.1 hm).symm) (fun k hk hm => cells_ne h.own hg h3 (by rw [hk, List.mem_singleton.1 hm])) (fun k hk hm => cells_ne h.ownw hg h3 (by rw [hk, List.mem_singleton.1 hm])) (fun x hx => .inl hx)
theorem BagAt.apart_of {w : World} {lo bb bm last : Nat} {es : List Ent} {D : DataW Value} (h : BagAt w lo bb bm last es D) {x : Int} {y : Ent} (hy : findE es x = some y) : ∀ e ∈ dropE es x, ∀ k, y.v.ownBlock = some k → e.v.ownBlock ≠ some k := fun e he k hk hk2 => by
  obtain ⟨hym, hyx⟩ := findE_some hy
  have he2 := List.mem_filter.1 he
  have hex : e.id ≠ x := by simpa using he2.2
  obtain ⟨i, hi, hie⟩ := List.getElem_of_mem hym
  obtain ⟨j, hj, hje⟩ := List.getElem_of_mem he2.1
  have hp := List.pairwise_iff_getElem.1 h.apart
  rcases Nat.lt_trichotomy i j with hij | hij | hij
  · exact hp i j hi hj hij k (by rw [hie]; exact hk) (by rw [hje]; exact hk2)
  · subst hij; rw [hie] at hje; rw [← hje] at hex; exact hex hyx
  · exact hp j i hj hi hij k (by rw [hje]; exact hk2) (by rw [hie]; exact hk)
theorem drop_sub {es : List Ent} {x : Int} : ∀ e ∈ dropE es x, e ∈ es := fun _ he => (List.mem_filter.1 he).1
theorem taken_ (w w0 : World) (lo bs : Nat) (m0 q0 : Ent) (sb : Bool) (es : List Ent) (h : ShelfAt w lo bs m0 q0 sb es) (since : Upd [] w0 w) (hlo0 : w0.heap.size ≤ lo) (hlo : lo ≤ w.heap.size) (m q : Ent) (hm : OwnB w lo m.v m.b) (hq : RdB w0 q.v q.b) (hc : m.core = q.core) (hs : m.b.length ≤ 1024)
    (hne : ∀ k, m.v.ownBlock = some k → m0.v.ownBlock ≠ some k) (hap : ∀ e ∈ es, ∀ k, m.v.ownBlock = some k → e.v.ownBlock ≠ some k) :
    Calls Try.prog 37 #[.pointer (some ⟨bs, 0, none⟩), .agg m.cells, .agg q.cells] w (TakenAns w lo bs m0 m q es) := by
  cases sb with
  | true => exact taken_true w w0 lo bs m0 q0 es h since hlo0 hlo m q hm hq hc hs hne hap
  | false => exact taken_false w w0 lo bs m0 q0 es h since hlo0 hlo m q hm hq hc hs hne hap
set_option maxRecDepth 100000 in
set_option maxHeartbeats 6400000 in
theorem step_other (w w0 : World) (lo bb bm bs : Nat) (v : Value) (last : Nat) (es ks : List Ent) (D : DataW Value) (m0 q0 : Ent) (sb : Bool) (h : ExAt w w0 lo bb bm v last es ks D) (hsh : ShelfAt w lo bs m0 q0 sb es) (hla : last ≤ 90000) (s : Stp) (hv : RdB w0 s.m.v s.m.b) (hb3 : s.m.b.length ≤ 3000) (hx : wfI s.x) (hn9 : s.n ≤ 9000) (hk : s.kind ≠ 1 ∧ s.kind ≠ 2 ∧ s.kind ≠ 3 ∧ s.kind ≠ 4 ∧ s.kind ≠ 5) :
    Calls Try.prog 16 #[.pointer (some ⟨bb, 0, none⟩), .agg (refC v last), .agg s.cells.toArray, .pointer (some ⟨bs, 0, none⟩)] w (StepAns w w0 lo bb bm bs (bb :: bm :: bs :: m0.v.ownBlock.toList) last (1 + s.n.toNat)) := by
  have H := Lib.hid h
  have HSH := Lib.hid hsh
  have HLA := Lib.hid hla
  have HV := Lib.hid hv
  have HB3 := Lib.hid hb3
  have HX := Lib.hid hx
  have HN9 := Lib.hid hn9
  have hsz := size_ref v last
  have hone := one_ref last h.vo
  have HLOW : Hid (lo ≤ w.heap.size) := h.lows
  have hsS := size_stepL s
  have HKD := Lib.hid hk
  clear h hsh hla hv hb3 hx hn9 hk
  go_enter Try.func16, Try.ntmps16
  go_wp2_with (with_reducible refine arm_box (by with_unfolding_all exact rfl) ?_)
  intro b5 w1 hb5 k5 hU1 hz1
  change w1.heap[b5]? = some (.cells (refC v last) 44 (0, 0)) at k5
  have HB5 : Hid (w.heap.size ≤ b5) := by show w.heap.size ≤ b5; omega
  have HU1 := Lib.hid hU1
  clear hb5 hU1 hz1
  go_wp2_with (with_reducible refine arm_box (by with_unfolding_all exact rfl) ?_)
  intro b6 w2 hb6 k6 hU2 hz2
  change w2.heap[b6]? = some (.cells s.cells.toArray 52 (0, 0)) at k6
  have HB6 : Hid (w.heap.size ≤ b6) := by show w.heap.size ≤ b6; have := HU1.out.size; omega
  have HK5 := Lib.hid (hU2.heap k5 (by simp))
  have HU2 := Lib.hid (HU1.out.trans hU2)
  clear hb6 hU2 hz2 k5
  go_wp2_with (with_reducible refine arm_alloc (zero_ref _) ?_)
  intro b8 w3 hb8 k8 hU3 hz3
  change w3.heap[b8]? = some (.cells (refC (.slice none 0 0) 0) 44 (0, 0)) at k8
  have HB8 : Hid (w.heap.size ≤ b8) := by show w.heap.size ≤ b8; have := HU2.out.size; omega
  have HN58 : Hid (b5 ≠ b8) := by show b5 ≠ b8; have := lt_of_heap HK5.out; omega
  have HK5 := Lib.hid (hU3.heap HK5.out (by simp))
  have HK6 := Lib.hid (hU3.heap k6 (by simp))
  have HK8 := Lib.hid k8
  have HU3 := Lib.hid (HU2.out.trans hU3)
  have HZ : Hid (Upd (bb :: bm :: bs :: m0.v.ownBlock.toList) w w3) := HU3.out.of0
  have H3 := Lib.hid (H.out.upd0 HU3.out)
  have HSH3 := Lib.hid (HSH.out.upd0 HU3.out)
  have HLO3 : Hid (lo ≤ w3.heap.size ∧ w.heap.size ≤ w3.heap.size) := ⟨by have := HLOW.out; have := HU3.out.size; omega, HU3.out.size⟩
  clear hb8 hU3 hz3 k6 k8
  obtain ⟨kd, hkd⟩ : ∃ q, s.kind = q := ⟨_, rfl⟩
  have ck : w3.cell? ⟨b6, 0, none⟩ = some (.int .i64 kd) := by rw [cell_of_row _ _ _ _ _ _ HK6.out, ← hkd]; rfl
  have e1 : (kd == 1) = false := by rw [← hkd]; simp; exact HKD.out.1
  have e2 : (kd == 2) = false := by rw [← hkd]; simp; exact HKD.out.2.1
  have e3 : (kd == 3) = false := by rw [← hkd]; simp; exact HKD.out.2.2.1
  have e4 : (kd == 4) = false := by rw [← hkd]; simp; exact HKD.out.2.2.2.1
  have e5 : (kd == 5) = false := by rw [← hkd]; simp; exact HKD.out.2.2.2.2
  clear hkd
  have k5 := HK5.out
  have k8 := HK8.out
  go_wp2_with (first
    | (with_reducible refine arm_load (by with_unfolding_all exact rfl) k5 Try.underlying44 (by with_unfolding_all exact rfl) hsz ?_)
    | (with_reducible refine arm_store (by with_unfolding_all exact rfl) (by with_unfolding_all exact rfl) k8 hsz (by with_unfolding_all exact rfl) hone ?_))
  intro w4 k8' hX4 hz4
  have HZ := Lib.hid (HZ.out.trans' hX4 (fun q hm hl => by have := List.mem_singleton.1 hm; have := HB8.out; omega))
  have H4 := Lib.hid (H3.out.local hX4 k8 (by decide) (by decide) (by decide) (by have := HB8.out; have := HLOW.out; omega))
  have HSH4 := Lib.hid (HSH3.out.local hX4 k8 (by decide) (by decide))
  clear hX4 hz4 k8 k5
  go_wp2_with (fail)
  refine bodyPost_ret (results_agg_tmp rfl _ _ b8 44 _ (0, 0) _ rfl k8' Try.underlying44 rfl hsz rfl) rfl ?_
  exact ⟨v, last, rfl, ⟨es, ks, D, m0, q0, sb, H4.out, HSH4.out⟩, by omega, HZ.out⟩
set_option maxRecDepth 100000 in
set_option maxHeartbeats 6400000 in
theorem step_put (w w0 : World) (lo bb bm bs : Nat) (v : Value) (last : Nat) (es ks : List Ent) (D : DataW Value) (m0 q0 : Ent) (sb : Bool) (h : ExAt w w0 lo bb bm v last es ks D) (hsh : ShelfAt w lo bs m0 q0 sb es) (hla : last ≤ 90000) (s : Stp) (hv : RdB w0 s.m.v s.m.b) (hb3 : s.m.b.length ≤ 3000) (hx : wfI s.x) (hn9 : s.n ≤ 9000) (hk : s.kind = 1) :
    Calls Try.prog 16 #[.pointer (some ⟨bb, 0, none⟩), .agg (refC v last), .agg s.cells.toArray, .pointer (some ⟨bs, 0, none⟩)] w (StepAns w w0 lo bb bm bs (bb :: bm :: bs :: m0.v.ownBlock.toList) last (1 + s.n.toNat)) := by
  have H := Lib.hid h
  have HSH := Lib.hid hsh
  have HLA := Lib.hid hla
  have HV := Lib.hid hv
  have HB3 := Lib.hid hb3
  have HX := Lib.hid hx
  have HN9 := Lib.hid hn9
  have hsz := size_ref v last
  have hone := one_ref last h.vo
  have HLOW : Hid (lo ≤ w.heap.size) := h.lows
  have hsS := size_stepL s
  have HKD := Lib.hid hk
  clear h hsh hla hv hb3 hx hn9 hk
  go_enter Try.func16, Try.ntmps16
  go_wp2_with (with_reducible refine arm_box (by with_unfolding_all exact rfl) ?_)
  intro b5 w1 hb5 k5 hU1 hz1
  change w1.heap[b5]? = some (.cells (refC v last) 44 (0, 0)) at k5
  have HB5 : Hid (w.heap.size ≤ b5) := by show w.heap.size ≤ b5; omega
  have HU1 := Lib.hid hU1
  clear hb5 hU1 hz1
  go_wp2_with (with_reducible refine arm_box (by with_unfolding_all exact rfl) ?_)
  intro b6 w2 hb6 k6 hU2 hz2
  change w2.heap[b6]? = some (.cells s.cells.toArray 52 (0, 0)) at k6
  have HB6 : Hid (w.heap.size ≤ b6) := by show w.heap.size ≤ b6; have := HU1.out.size; omega
  have HK5 := Lib.hid (hU2.heap k5 (by simp))
  have HU2 := Lib.hid (HU1.out.trans hU2)
  clear hb6 hU2 hz2 k5
  go_wp2_with (with_reducible refine arm_alloc (zero_ref _) ?_)
  intro b8 w3 hb8 k8 hU3 hz3
  change w3.heap[b8]? = some (.cells (refC (.slice none 0 0) 0) 44 (0, 0)) at k8
  have HB8 : Hid (w.heap.size ≤ b8) := by show w.heap.size ≤ b8; have := HU2.out.size; omega
  have HN58 : Hid (b5 ≠ b8) := by show b5 ≠ b8; have := lt_of_heap HK5.out; omega
  have HK5 := Lib.hid (hU3.heap HK5.out (by simp))
  have HK6 := Lib.hid (hU3.heap k6 (by simp))
  have HK8 := Lib.hid k8
  have HU3 := Lib.hid (HU2.out.trans hU3)
  have HZ : Hid (Upd (bb :: bm :: bs :: m0.v.ownBlock.toList) w w3) := HU3.out.of0
  have H3 := Lib.hid (H.out.upd0 HU3.out)
  have HSH3 := Lib.hid (HSH.out.upd0 HU3.out)
  have HLO3 : Hid (lo ≤ w3.heap.size ∧ w.heap.size ≤ w3.heap.size) := ⟨by have := HLOW.out; have := HU3.out.size; omega, HU3.out.size⟩
  clear hb8 hU3 hz3 k6 k8
  obtain ⟨kd, hkd⟩ : ∃ q, s.kind = q := ⟨_, rfl⟩
  have ck : w3.cell? ⟨b6, 0, none⟩ = some (.int .i64 kd) := by rw [cell_of_row _ _ _ _ _ _ HK6.out, ← hkd]; rfl
  rw [HKD.out] at hkd
  subst hkd
  have k5 := HK5.out
  have hrm : w3.rangeAt b6 1 (msgC s.m.id s.m.fr s.m.to s.m.v).toList := range_of_row (cur := s.cells) HK6.out 1 _ ⟨[.int .i64 s.kind], [.int .i64 s.x, .int .i64 s.n], rfl, rfl⟩
  have hs4 : (Try.prog.info? 32).map (·.size) = some (msgC s.m.id s.m.fr s.m.to s.m.v).toList.length := size_msg4
  go_wp2_with (first
    | (with_reducible refine arm_load (by with_unfolding_all exact rfl) k5 Try.underlying44 (by with_unfolding_all exact rfl) hsz ?_)
    | (with_reducible refine arm_load_mid_g (by kernel_rfl) (by with_unfolding_all exact rfl) hrm Try.underlying32 rfl hs4 ?_))
  refine (put24_ _ w0 lo bb bm v last es ks D H3.out (by have := HLA.out; omega) s.m HV.out HB3.out).mono ?_
  rintro e w4 ⟨v4, last4, es4, ks4, D4, rfl, hX4, hl4, hn4, hU4⟩
  have k8 := hU4.heap HK8.out (H3.out.notbag HK8.out (by decide))
  have HSH4 := Lib.hid (HSH3.out.bag H3.out.bag hU4 hn4)
  have HZ := Lib.hid (HZ.out.trans' hU4 (fun q hm _ => by simp at hm; rcases hm with h | h <;> simp [h]))
  have HX4 := Lib.hid hX4
  have HL4 : Hid (last4 ≤ last + 1) := hl4
  have hs8 := size_ref v4 last4
  have ho8 := one_ref last4 hX4.vo
  clear hX4 hn4 hl4 hU4 hrm hs4 k5 ck
  go_wp2_with (with_reducible refine arm_store (by with_unfolding_all exact rfl) (by with_unfolding_all exact rfl) k8 hs8 (by with_unfolding_all exact rfl) ho8 ?_)
  intro w5 k8' hX5 hz5
  have HZ := Lib.hid (HZ.out.trans' hX5 (fun q hm hl => by have := List.mem_singleton.1 hm; have := HB8.out; omega))
  have H5 := Lib.hid (HX4.out.local hX5 k8 (by decide) (by decide) (by decide) (by have := HB8.out; have := HLOW.out; omega))
  have HSH5 := Lib.hid (HSH4.out.local hX5 k8 (by decide) (by decide))
  clear hX5 hz5 k8
  go_wp2_with (fail)
  refine bodyPost_ret (results_agg_tmp rfl _ _ b8 44 _ (0, 0) _ rfl k8' Try.underlying44 rfl hs8 rfl) rfl ?_
  exact ⟨v4, last4, rfl, ⟨es4, ks4, D4, m0, q0, sb, H5.out, HSH5.out⟩, by have := HL4.out; omega, HZ.out⟩
set_option maxRecDepth 100000 in
set_option maxHeartbeats 6400000 in
theorem step_get_none (w w0 : World) (lo bb bm bs : Nat) (v : Value) (last : Nat) (es ks : List Ent) (D : DataW Value) (m0 q0 : Ent) (sb : Bool) (h : ExAt w w0 lo bb bm v last es ks D) (hsh : ShelfAt w lo bs m0 q0 sb es) (hla : last ≤ 90000) (s : Stp) (hv : RdB w0 s.m.v s.m.b) (hb3 : s.m.b.length ≤ 3000) (hx : wfI s.x) (hn9 : s.n ≤ 9000) (hk : s.kind = 2) (hf : findE es s.x = none) :
    Calls Try.prog 16 #[.pointer (some ⟨bb, 0, none⟩), .agg (refC v last), .agg s.cells.toArray, .pointer (some ⟨bs, 0, none⟩)] w (StepAns w w0 lo bb bm bs (bb :: bm :: bs :: m0.v.ownBlock.toList) last (1 + s.n.toNat)) := by
  have H := Lib.hid h
  have HSH := Lib.hid hsh
  have HLA := Lib.hid hla
  have HV := Lib.hid hv
  have HB3 := Lib.hid hb3
  have HX := Lib.hid hx
  have HN9 := Lib.hid hn9
  have hsz := size_ref v last
  have hone := one_ref last h.vo
  have HLOW : Hid (lo ≤ w.heap.size) := h.lows
  have hsS := size_stepL s
  have HKD := Lib.hid hk
  have HF := Lib.hid hf
  have HFK := Lib.hid ((core_find h.alike s.x).1.1 hf)
  clear hf
  clear h hsh hla hv hb3 hx hn9 hk
  go_enter Try.func16, Try.ntmps16
  go_wp2_with (with_reducible refine arm_box (by with_unfolding_all exact rfl) ?_)
  intro b5 w1 hb5 k5 hU1 hz1
  change w1.heap[b5]? = some (.cells (refC v last) 44 (0, 0)) at k5
  have HB5 : Hid (w.heap.size ≤ b5) := by show w.heap.size ≤ b5; omega
  have HU1 := Lib.hid hU1
  clear hb5 hU1 hz1
  go_wp2_with (with_reducible refine arm_box (by with_unfolding_all exact rfl) ?_)
  intro b6 w2 hb6 k6 hU2 hz2
  change w2.heap[b6]? = some (.cells s.cells.toArray 52 (0, 0)) at k6
  have HB6 : Hid (w.heap.size ≤ b6) := by show w.heap.size ≤ b6; have := HU1.out.size; omega
  have HK5 := Lib.hid (hU2.heap k5 (by simp))
  have HU2 := Lib.hid (HU1.out.trans hU2)
  clear hb6 hU2 hz2 k5
  go_wp2_with (with_reducible refine arm_alloc (zero_ref _) ?_)
  intro b8 w3 hb8 k8 hU3 hz3
  change w3.heap[b8]? = some (.cells (refC (.slice none 0 0) 0) 44 (0, 0)) at k8
  have HB8 : Hid (w.heap.size ≤ b8) := by show w.heap.size ≤ b8; have := HU2.out.size; omega
  have HN58 : Hid (b5 ≠ b8) := by show b5 ≠ b8; have := lt_of_heap HK5.out; omega
  have HK5 := Lib.hid (hU3.heap HK5.out (by simp))
  have HK6 := Lib.hid (hU3.heap k6 (by simp))
  have HK8 := Lib.hid k8
  have HU3 := Lib.hid (HU2.out.trans hU3)
  have HZ : Hid (Upd (bb :: bm :: bs :: m0.v.ownBlock.toList) w w3) := HU3.out.of0
  have H3 := Lib.hid (H.out.upd0 HU3.out)
  have HSH3 := Lib.hid (HSH.out.upd0 HU3.out)
  have HLO3 : Hid (lo ≤ w3.heap.size ∧ w.heap.size ≤ w3.heap.size) := ⟨by have := HLOW.out; have := HU3.out.size; omega, HU3.out.size⟩
  clear hb8 hU3 hz3 k6 k8
  obtain ⟨kd, hkd⟩ : ∃ q, s.kind = q := ⟨_, rfl⟩
  have ck : w3.cell? ⟨b6, 0, none⟩ = some (.int .i64 kd) := by rw [cell_of_row _ _ _ _ _ _ HK6.out, ← hkd]; rfl
  rw [HKD.out] at hkd
  subst hkd
  have c5 : w3.cell? ⟨b6, 5, none⟩ = some (.int .i64 s.x) := by rw [cell_of_row _ _ _ _ _ _ HK6.out]; rfl
  go_wp2_with (fail)
  refine (get_none _ _ bb bm last es D H3.out.bag s.x HX.out HF.out).mono ?_
  rintro e w4 ⟨v4, rfl, hO4, hU4⟩
  have HO4 := Lib.hid hO4
  have HV4 : Hid (∀ q, v4.ownBlock = some q → w3.heap.size ≤ q ∧ q < w4.heap.size) := hO4.lt
  have hv4 : v4.oneCell' = true := by obtain ⟨a, q, e⟩ := hO4.isSlice; rw [e]; rfl
  have HK5 := Lib.hid (hU4.heap HK5.out (by simp))
  have HK6 := Lib.hid (hU4.heap HK6.out (by simp))
  have HK8 := Lib.hid (hU4.heap HK8.out (by simp))
  have HZ := Lib.hid (HZ.out.trans0 hU4)
  have H4 := Lib.hid (H3.out.upd0 hU4)
  have HSH4 := Lib.hid (HSH3.out.upd0 hU4)
  have hsm := size_msg 0 0 0 v4
  have hom := one_msg 0 0 0 hv4
  have HL4 : Hid (w3.heap.size ≤ w4.heap.size) := hU4.size
  clear hO4 hU4 hv4 c5 ck
  go_wp2_with (with_reducible refine arm_alloc (zero_msg _) ?_)
  intro bA w5 hbA kA hU5 hz5
  change w5.heap[bA]? = some (.cells (msgC 0 0 0 (.slice none 0 0)) 32 (0, 0)) at kA
  have HBA : Hid (w4.heap.size = bA) := hbA
  have HK5 := Lib.hid (hU5.heap HK5.out (by simp))
  have HK6 := Lib.hid (hU5.heap HK6.out (by simp))
  have HK8 := Lib.hid (hU5.heap HK8.out (by simp))
  have HO5 := Lib.hid (HO4.out.upd0 hU5)
  have HU5 := Lib.hid hU5
  clear hbA hU5 hz5
  go_wp2_with (with_reducible refine arm_store (by with_unfolding_all exact rfl) (by with_unfolding_all exact rfl) kA hsm (by with_unfolding_all exact rfl) hom ?_)
  intro w6 kA' hX6 hz6
  have k5 := hX6.heap HK5.out (fun hm => heap_ne HK5.out kA (by decide) (List.mem_singleton.1 hm))
  have HK6 := Lib.hid (hX6.heap HK6.out (fun hm => heap_ne HK6.out kA (by decide) (List.mem_singleton.1 hm)))
  have HK8 := Lib.hid (hX6.heap HK8.out (fun hm => heap_ne HK8.out kA (by decide) (List.mem_singleton.1 hm)))
  have HO6 := Lib.hid (HO5.out.upd hX6 (fun q hq hm => cells_ne HO5.out kA (by decide) (by rw [hq, List.mem_singleton.1 hm])))
  have HKA := Lib.hid kA'
  have HU6 : Hid (Upd [] w4 w6) := HU5.out.trans' hX6 (fun q hm hl => by have := List.mem_singleton.1 hm; have := HBA.out; omega)
  have HZ := Lib.hid (HZ.out.trans0 HU6.out)
  have H6 := Lib.hid (H4.out.upd0 HU6.out)
  have HSH6 := Lib.hid (HSH4.out.upd0 HU6.out)
  have c5 : w6.cell? ⟨b6, 5, none⟩ = some (.int .i64 s.x) := by rw [cell_of_row _ _ _ _ _ _ HK6.out]; rfl
  clear hX6 hz6 kA kA'
  go_wp2_with (with_reducible refine arm_load (by with_unfolding_all exact rfl) k5 Try.underlying44 (by with_unfolding_all exact rfl) hsz ?_)
  refine (rget_ _ v last ks H6.out.rdm (by rw [← H.out.len]; exact H.out.bag.room) s.x).mono ?_
  rintro e w7 ⟨rfl, hU7⟩
  rw [got_none HFK.out]
  skip
  have HK5 := Lib.hid (hU7.heap k5 (by simp))
  have HKA := Lib.hid (hU7.heap HKA.out (by simp))
  have HK8 := Lib.hid (hU7.heap HK8.out (by simp))
  have HO7 := Lib.hid (HO6.out.upd0 hU7)
  have HZ := Lib.hid (HZ.out.trans0 hU7)
  have H7 := Lib.hid (H6.out.upd0 hU7)
  have HSH7 := Lib.hid (HSH6.out.upd0 hU7)
  have hsk := size_msg 0 0 0 (.slice none 0 0)
  have hok := one_msg 0 0 0 (v := (.slice none 0 0)) rfl
  have HLA7 : Hid (bA < w7.heap.size) := lt_of_heap HKA.out
  have HL7 : Hid (w4.heap.size ≤ w7.heap.size) := by show w4.heap.size ≤ w7.heap.size; have := HU6.out.size; have := hU7.size; omega
  clear hU7 c5 k5
  go_wp2_with (with_reducible refine arm_alloc (zero_msg _) ?_)
  intro bC w8 hbC kC hU8 hz8
  change w8.heap[bC]? = some (.cells (msgC 0 0 0 (.slice none 0 0)) 32 (0, 0)) at kC
  have HBC : Hid (w7.heap.size = bC) := hbC
  have HNAC : Hid (bA ≠ bC) := by show bA ≠ bC; have := HLA7.out; have := HBC.out; omega
  have HK5 := Lib.hid (hU8.heap HK5.out (by simp))
  have HKA := Lib.hid (hU8.heap HKA.out (by simp))
  have HK8 := Lib.hid (hU8.heap HK8.out (by simp))
  have HO8 := Lib.hid (HO7.out.upd0 hU8)
  have HU8 := Lib.hid hU8
  clear hbC hU8 hz8
  go_wp2_with (with_reducible refine arm_store (by with_unfolding_all exact rfl) (by with_unfolding_all exact rfl) kC hsk (by with_unfolding_all exact rfl) hok ?_)
  intro w9 kC' hX9 hz9
  have HK5 := Lib.hid (hX9.heap HK5.out (fun hm => heap_ne HK5.out kC (by decide) (List.mem_singleton.1 hm)))
  have HK8 := Lib.hid (hX9.heap HK8.out (fun hm => heap_ne HK8.out kC (by decide) (List.mem_singleton.1 hm)))
  have kA := hX9.heap HKA.out (fun hm => HNAC.out (List.mem_singleton.1 hm))
  have HO9 := Lib.hid (HO8.out.upd hX9 (fun q hq hm => cells_ne HO8.out kC (by decide) (by rw [hq, List.mem_singleton.1 hm])))
  have HU9 : Hid (Upd [] w7 w9) := HU8.out.trans' hX9 (fun q hm hl => by have := List.mem_singleton.1 hm; have := HBC.out; omega)
  have HZ := Lib.hid (HZ.out.trans0 HU9.out)
  have H9 := Lib.hid (H7.out.upd0 HU9.out)
  have HSH9 := Lib.hid (HSH7.out.upd0 HU9.out)
  clear hX9 hz9 kC
  go_wp2_with (first
    | (with_reducible refine arm_load_g (by kernel_rfl) (by with_unfolding_all exact rfl) kA Try.underlying32 (by with_unfolding_all exact rfl) hsm ?_)
    | (with_reducible refine arm_load_g (by kernel_rfl) (by with_unfolding_all exact rfl) kC' Try.underlying32 (by with_unfolding_all exact rfl) hsk ?_))
  refine (sameM_ _ (Ent.mk 0 0 0 v4 []) (Ent.mk 0 0 0 (.slice none 0 0) []) HO9.out.rd (RdB.nil _) (by simp) (by simp)).mono ?_
  rintro e wa ⟨rfl, hUa⟩
  have heq : eqCore (Ent.mk 0 0 0 v4 []) (Ent.mk 0 0 0 (.slice none 0 0) []) = true := (eqCore_iff _ _).2 rfl
  rw [heq]
  have HK5 := Lib.hid (hUa.heap HK5.out (by simp))
  have HK8 := Lib.hid (hUa.heap HK8.out (by simp))
  have kA := hUa.heap kA (by simp)
  have HOa := Lib.hid (HO9.out.upd0 hUa)
  have HZ := Lib.hid (HZ.out.trans0 hUa)
  have Ha := Lib.hid (H9.out.upd0 hUa)
  have HSHa := Lib.hid (HSH9.out.upd0 hUa)
  have HLa : Hid (w3.heap.size ≤ wa.heap.size ∧ w4.heap.size ≤ wa.heap.size) := by have := HL4.out; have := HL7.out; have := HU9.out.size; have := hUa.size; exact ⟨by omega, by omega⟩
  clear hUa heq kC'
  go_wp2_with (with_reducible refine arm_load (by with_unfolding_all exact rfl) kA Try.underlying32 (by with_unfolding_all exact rfl) hsm ?_)
  refine (wipe_ _ w3.heap.size 0 0 0 v4 [] HOa.out HLa.out.1 (by simp)).mono ?_
  rintro e wb ⟨⟨z, rfl⟩, hUb⟩
  have HTB : Hid (∀ {k : Nat} {C : Array Value} {T : TypeId} {fr' : Nat × Nat}, wa.heap[k]? = some (.cells C T fr') → T ≠ 5 → k ∉ v4.ownBlock.toList) := fun {k C T fr'} h1 h2 hm => cells_ne HOa.out h1 h2 (by simpa using hm)
  have k5 := hUb.heap HK5.out (HTB.out HK5.out (by decide))
  have k8 := hUb.heap HK8.out (HTB.out HK8.out (by decide))
  have HZ := Lib.hid (HZ.out.trans' hUb (fun q hm hl => by have h1 := (HV4.out q (by simpa using hm)).1; have := HLO3.out; omega))
  have Hb := Lib.hid (Ha.out.bytes hUb (fun q hq => by
    have hq' : v4.ownBlock = some q := by simpa using hq
    refine ⟨by have := (HV4.out q hq').1; have := HLO3.out; omega, own_type HOa.out hq', fun e he hk2 => ?_⟩
    have h1 := ((H3.out.bag.rows e he).lt q hk2).2
    have := (HV4.out q hq').1
    omega))
  have HSHb : Hid (ShelfAt wb lo bs m0 q0 sb es) := HSHa.out.upd hUb (HTB.out HSHa.out.cells (by decide)) (fun q hq hm => by have h1 := (HSH3.out.own.lt q hq).2; have := (HV4.out q (by simpa using hm)).1; omega) (fun q hq hm => by have h1 := (HSH3.out.ownw.lt q hq).2; have := (HV4.out q (by simpa using hm)).1; omega) (fun x hx => .inl hx)
  clear hUb kA
  go_wp2_with (first
    | (with_reducible refine arm_load (by with_unfolding_all exact rfl) k5 Try.underlying44 (by with_unfolding_all exact rfl) hsz ?_)
    | (with_reducible refine arm_store (by with_unfolding_all exact rfl) (by with_unfolding_all exact rfl) k8 hsz (by with_unfolding_all exact rfl) hone ?_))
  intro wc k8' hXc hzc
  have HZ := Lib.hid (HZ.out.trans' hXc (fun q hm hl => by have := List.mem_singleton.1 hm; have := HB8.out; omega))
  have Hc := Lib.hid (Hb.out.local hXc k8 (by decide) (by decide) (by decide) (by have := HB8.out; have := HLOW.out; omega))
  have HSHc := Lib.hid (HSHb.out.local hXc k8 (by decide) (by decide))
  clear hXc hzc k8 k5
  go_wp2_with (fail)
  refine bodyPost_ret (results_agg_tmp rfl _ _ b8 44 _ (0, 0) _ rfl k8' Try.underlying44 rfl hsz rfl) rfl ?_
  exact ⟨v, last, rfl, ⟨es, ks, D, m0, q0, sb, Hc.out, HSHc.out⟩, by omega, HZ.out⟩
set_option maxRecDepth 100000 in
set_option maxHeartbeats 6400000 in
theorem step_get_some (w w0 : World) (lo bb bm bs : Nat) (v : Value) (last : Nat) (es ks : List Ent) (D : DataW Value) (m0 q0 : Ent) (sb : Bool) (h : ExAt w w0 lo bb bm v last es ks D) (hsh : ShelfAt w lo bs m0 q0 sb es) (hla : last ≤ 90000) (s : Stp) (hv : RdB w0 s.m.v s.m.b) (hb3 : s.m.b.length ≤ 3000) (hx : wfI s.x) (hn9 : s.n ≤ 9000) (hk : s.kind = 2) (y : Ent) (hf : findE es s.x = some y) (k : Ent) (hfk : findE ks s.x = some k) :
    Calls Try.prog 16 #[.pointer (some ⟨bb, 0, none⟩), .agg (refC v last), .agg s.cells.toArray, .pointer (some ⟨bs, 0, none⟩)] w (StepAns w w0 lo bb bm bs (bb :: bm :: bs :: m0.v.ownBlock.toList) last (1 + s.n.toNat)) := by
  have H := Lib.hid h
  have HSH := Lib.hid hsh
  have HLA := Lib.hid hla
  have HV := Lib.hid hv
  have HB3 := Lib.hid hb3
  have HX := Lib.hid hx
  have HN9 := Lib.hid hn9
  have hsz := size_ref v last
  have hone := one_ref last h.vo
  have HLOW : Hid (lo ≤ w.heap.size) := h.lows
  have hsS := size_stepL s
  have HKD := Lib.hid hk
  have HF := Lib.hid hf
  have HFK := Lib.hid hfk
  have HYK : Hid (y.core = k.core) := (core_find h.alike s.x).2 y k hf hfk
  have HYB : Hid (y.b.length ≤ 1024) := h.bag.short y (findE_some hf).1
  have hko : k.v.oneCell' = true := by obtain ⟨a, q, e, _⟩ := (h.rd k (findE_some hfk).1).isSlice; rw [e]; rfl
  have HKR := Lib.hid (h.rd k (findE_some hfk).1)
  clear hf hfk
  clear h hsh hla hv hb3 hx hn9 hk
  go_enter Try.func16, Try.ntmps16
  go_wp2_with (with_reducible refine arm_box (by with_unfolding_all exact rfl) ?_)
  intro b5 w1 hb5 k5 hU1 hz1
  change w1.heap[b5]? = some (.cells (refC v last) 44 (0, 0)) at k5
  have HB5 : Hid (w.heap.size ≤ b5) := by show w.heap.size ≤ b5; omega
  have HU1 := Lib.hid hU1
  clear hb5 hU1 hz1
  go_wp2_with (with_reducible refine arm_box (by with_unfolding_all exact rfl) ?_)
  intro b6 w2 hb6 k6 hU2 hz2
  change w2.heap[b6]? = some (.cells s.cells.toArray 52 (0, 0)) at k6
  have HB6 : Hid (w.heap.size ≤ b6) := by show w.heap.size ≤ b6; have := HU1.out.size; omega
  have HK5 := Lib.hid (hU2.heap k5 (by simp))
  have HU2 := Lib.hid (HU1.out.trans hU2)
  clear hb6 hU2 hz2 k5
  go_wp2_with (with_reducible refine arm_alloc (zero_ref _) ?_)
  intro b8 w3 hb8 k8 hU3 hz3
  change w3.heap[b8]? = some (.cells (refC (.slice none 0 0) 0) 44 (0, 0)) at k8
  have HB8 : Hid (w.heap.size ≤ b8) := by show w.heap.size ≤ b8; have := HU2.out.size; omega
  have HN58 : Hid (b5 ≠ b8) := by show b5 ≠ b8; have := lt_of_heap HK5.out; omega
  have HK5 := Lib.hid (hU3.heap HK5.out (by simp))
  have HK6 := Lib.hid (hU3.heap k6 (by simp))
  have HK8 := Lib.hid k8
  have HU3 := Lib.hid (HU2.out.trans hU3)
  have HZ : Hid (Upd (bb :: bm :: bs :: m0.v.ownBlock.toList) w w3) := HU3.out.of0
  have H3 := Lib.hid (H.out.upd0 HU3.out)
  have HSH3 := Lib.hid (HSH.out.upd0 HU3.out)
  have HLO3 : Hid (lo ≤ w3.heap.size ∧ w.heap.size ≤ w3.heap.size) := ⟨by have := HLOW.out; have := HU3.out.size; omega, HU3.out.size⟩
  clear hb8 hU3 hz3 k6 k8
  obtain ⟨kd, hkd⟩ : ∃ q, s.kind = q := ⟨_, rfl⟩
  have ck : w3.cell? ⟨b6, 0, none⟩ = some (.int .i64 kd) := by rw [cell_of_row _ _ _ _ _ _ HK6.out, ← hkd]; rfl
  rw [HKD.out] at hkd
  subst hkd
  have c5 : w3.cell? ⟨b6, 5, none⟩ = some (.int .i64 s.x) := by rw [cell_of_row _ _ _ _ _ _ HK6.out]; rfl
  go_wp2_with (fail)
  refine (get_ _ _ bb bm last es D H3.out.bag s.x HX.out y HF.out).mono ?_
  rintro e w4 ⟨v4, rfl, hO4, hU4⟩
  have HO4 := Lib.hid hO4
  have HV4 : Hid (∀ q, v4.ownBlock = some q → w3.heap.size ≤ q ∧ q < w4.heap.size) := hO4.lt
  have hv4 : v4.oneCell' = true := by obtain ⟨a, q, e⟩ := hO4.isSlice; rw [e]; rfl
  have HK5 := Lib.hid (hU4.heap HK5.out (by simp))
  have HK6 := Lib.hid (hU4.heap HK6.out (by simp))
  have HK8 := Lib.hid (hU4.heap HK8.out (by simp))
  have HZ := Lib.hid (HZ.out.trans0 hU4)
  have H4 := Lib.hid (H3.out.upd0 hU4)
  have HSH4 := Lib.hid (HSH3.out.upd0 hU4)
  have hsm := size_msg y.id y.fr y.to v4
  have hom := one_msg y.id y.fr y.to hv4
  have HL4 : Hid (w3.heap.size ≤ w4.heap.size) := hU4.size
  clear hO4 hU4 hv4 c5 ck
  go_wp2_with (with_reducible refine arm_alloc (zero_msg _) ?_)
  intro bA w5 hbA kA hU5 hz5
  change w5.heap[bA]? = some (.cells (msgC 0 0 0 (.slice none 0 0)) 32 (0, 0)) at kA
  have HBA : Hid (w4.heap.size = bA) := hbA
  have HK5 := Lib.hid (hU5.heap HK5.out (by simp))
  have HK6 := Lib.hid (hU5.heap HK6.out (by simp))
  have HK8 := Lib.hid (hU5.heap HK8.out (by simp))
  have HO5 := Lib.hid (HO4.out.upd0 hU5)
  have HU5 := Lib.hid hU5
  clear hbA hU5 hz5
  go_wp2_with (with_reducible refine arm_store (by with_unfolding_all exact rfl) (by with_unfolding_all exact rfl) kA hsm (by with_unfolding_all exact rfl) hom ?_)
  intro w6 kA' hX6 hz6
  have k5 := hX6.heap HK5.out (fun hm => heap_ne HK5.out kA (by decide) (List.mem_singleton.1 hm))
  have HK6 := Lib.hid (hX6.heap HK6.out (fun hm => heap_ne HK6.out kA (by decide) (List.mem_singleton.1 hm)))
  have HK8 := Lib.hid (hX6.heap HK8.out (fun hm => heap_ne HK8.out kA (by decide) (List.mem_singleton.1 hm)))
  have HO6 := Lib.hid (HO5.out.upd hX6 (fun q hq hm => cells_ne HO5.out kA (by decide) (by rw [hq, List.mem_singleton.1 hm])))
  have HKA := Lib.hid kA'
  have HU6 : Hid (Upd [] w4 w6) := HU5.out.trans' hX6 (fun q hm hl => by have := List.mem_singleton.1 hm; have := HBA.out; omega)
  have HZ := Lib.hid (HZ.out.trans0 HU6.out)
  have H6 := Lib.hid (H4.out.upd0 HU6.out)
  have HSH6 := Lib.hid (HSH4.out.upd0 HU6.out)
  have c5 : w6.cell? ⟨b6, 5, none⟩ = some (.int .i64 s.x) := by rw [cell_of_row _ _ _ _ _ _ HK6.out]; rfl
  clear hX6 hz6 kA kA'
  go_wp2_with (with_reducible refine arm_load (by with_unfolding_all exact rfl) k5 Try.underlying44 (by with_unfolding_all exact rfl) hsz ?_)
  refine (rget_ _ v last ks H6.out.rdm (by rw [← H.out.len]; exact H.out.bag.room) s.x).mono ?_
  rintro e w7 ⟨rfl, hU7⟩
  rw [got_some HFK.out]
  unfold Ent.cells
  have HK5 := Lib.hid (hU7.heap k5 (by simp))
  have HKA := Lib.hid (hU7.heap HKA.out (by simp))
  have HK8 := Lib.hid (hU7.heap HK8.out (by simp))
  have HO7 := Lib.hid (HO6.out.upd0 hU7)
  have HZ := Lib.hid (HZ.out.trans0 hU7)
  have H7 := Lib.hid (H6.out.upd0 hU7)
  have HSH7 := Lib.hid (HSH6.out.upd0 hU7)
  have hsk := size_msg k.id k.fr k.to k.v
  have hok := one_msg k.id k.fr k.to (v := k.v) hko
  have HLA7 : Hid (bA < w7.heap.size) := lt_of_heap HKA.out
  have HL7 : Hid (w4.heap.size ≤ w7.heap.size) := by show w4.heap.size ≤ w7.heap.size; have := HU6.out.size; have := hU7.size; omega
  clear hU7 c5 k5
  go_wp2_with (with_reducible refine arm_alloc (zero_msg _) ?_)
  intro bC w8 hbC kC hU8 hz8
  change w8.heap[bC]? = some (.cells (msgC 0 0 0 (.slice none 0 0)) 32 (0, 0)) at kC
  have HBC : Hid (w7.heap.size = bC) := hbC
  have HNAC : Hid (bA ≠ bC) := by show bA ≠ bC; have := HLA7.out; have := HBC.out; omega
  have HK5 := Lib.hid (hU8.heap HK5.out (by simp))
  have HKA := Lib.hid (hU8.heap HKA.out (by simp))
  have HK8 := Lib.hid (hU8.heap HK8.out (by simp))
  have HO8 := Lib.hid (HO7.out.upd0 hU8)
  have HU8 := Lib.hid hU8
  clear hbC hU8 hz8
  go_wp2_with (with_reducible refine arm_store (by with_unfolding_all exact rfl) (by with_unfolding_all exact rfl) kC hsk (by with_unfolding_all exact rfl) hok ?_)
  intro w9 kC' hX9 hz9
  have HK5 := Lib.hid (hX9.heap HK5.out (fun hm => heap_ne HK5.out kC (by decide) (List.mem_singleton.1 hm)))
  have HK8 := Lib.hid (hX9.heap HK8.out (fun hm => heap_ne HK8.out kC (by decide) (List.mem_singleton.1 hm)))
  have kA := hX9.heap HKA.out (fun hm => HNAC.out (List.mem_singleton.1 hm))
  have HO9 := Lib.hid (HO8.out.upd hX9 (fun q hq hm => cells_ne HO8.out kC (by decide) (by rw [hq, List.mem_singleton.1 hm])))
  have HU9 : Hid (Upd [] w7 w9) := HU8.out.trans' hX9 (fun q hm hl => by have := List.mem_singleton.1 hm; have := HBC.out; omega)
  have HZ := Lib.hid (HZ.out.trans0 HU9.out)
  have H9 := Lib.hid (H7.out.upd0 HU9.out)
  have HSH9 := Lib.hid (HSH7.out.upd0 HU9.out)
  clear hX9 hz9 kC
  go_wp2_with (first
    | (with_reducible refine arm_load_g (by kernel_rfl) (by with_unfolding_all exact rfl) kA Try.underlying32 (by with_unfolding_all exact rfl) hsm ?_)
    | (with_reducible refine arm_load_g (by kernel_rfl) (by with_unfolding_all exact rfl) kC' Try.underlying32 (by with_unfolding_all exact rfl) hsk ?_))
  refine (sameM_ _ (Ent.mk y.id y.fr y.to v4 y.b) k HO9.out.rd (HKR.out.upd0 H9.out.since) (by have := HYB.out; show y.b.length ≤ 1000000; omega) (by have e : y.b = k.b := congrArg (fun p => p.2.2.2) HYK.out; have := HYB.out; rw [← e]; omega)).mono ?_
  rintro e wa ⟨rfl, hUa⟩
  have heq : eqCore (Ent.mk y.id y.fr y.to v4 y.b) k = true := (eqCore_iff _ _).2 HYK.out
  rw [heq]
  have HK5 := Lib.hid (hUa.heap HK5.out (by simp))
  have HK8 := Lib.hid (hUa.heap HK8.out (by simp))
  have kA := hUa.heap kA (by simp)
  have HOa := Lib.hid (HO9.out.upd0 hUa)
  have HZ := Lib.hid (HZ.out.trans0 hUa)
  have Ha := Lib.hid (H9.out.upd0 hUa)
  have HSHa := Lib.hid (HSH9.out.upd0 hUa)
  have HLa : Hid (w3.heap.size ≤ wa.heap.size ∧ w4.heap.size ≤ wa.heap.size) := by have := HL4.out; have := HL7.out; have := HU9.out.size; have := hUa.size; exact ⟨by omega, by omega⟩
  clear hUa heq kC'
  go_wp2_with (with_reducible refine arm_load (by with_unfolding_all exact rfl) kA Try.underlying32 (by with_unfolding_all exact rfl) hsm ?_)
  refine (wipe_ _ w3.heap.size y.id y.fr y.to v4 y.b HOa.out HLa.out.1 (by have := HYB.out; omega)).mono ?_
  rintro e wb ⟨⟨z, rfl⟩, hUb⟩
  have HTB : Hid (∀ {k : Nat} {C : Array Value} {T : TypeId} {fr' : Nat × Nat}, wa.heap[k]? = some (.cells C T fr') → T ≠ 5 → k ∉ v4.ownBlock.toList) := fun {k C T fr'} h1 h2 hm => cells_ne HOa.out h1 h2 (by simpa using hm)
  have k5 := hUb.heap HK5.out (HTB.out HK5.out (by decide))
  have k8 := hUb.heap HK8.out (HTB.out HK8.out (by decide))
  have HZ := Lib.hid (HZ.out.trans' hUb (fun q hm hl => by have h1 := (HV4.out q (by simpa using hm)).1; have := HLO3.out; omega))
  have Hb := Lib.hid (Ha.out.bytes hUb (fun q hq => by
    have hq' : v4.ownBlock = some q := by simpa using hq
    refine ⟨by have := (HV4.out q hq').1; have := HLO3.out; omega, own_type HOa.out hq', fun e he hk2 => ?_⟩
    have h1 := ((H3.out.bag.rows e he).lt q hk2).2
    have := (HV4.out q hq').1
    omega))
  have HSHb : Hid (ShelfAt wb lo bs m0 q0 sb es) := HSHa.out.upd hUb (HTB.out HSHa.out.cells (by decide)) (fun q hq hm => by have h1 := (HSH3.out.own.lt q hq).2; have := (HV4.out q (by simpa using hm)).1; omega) (fun q hq hm => by have h1 := (HSH3.out.ownw.lt q hq).2; have := (HV4.out q (by simpa using hm)).1; omega) (fun x hx => .inl hx)
  clear hUb kA
  go_wp2_with (first
    | (with_reducible refine arm_load (by with_unfolding_all exact rfl) k5 Try.underlying44 (by with_unfolding_all exact rfl) hsz ?_)
    | (with_reducible refine arm_store (by with_unfolding_all exact rfl) (by with_unfolding_all exact rfl) k8 hsz (by with_unfolding_all exact rfl) hone ?_))
  intro wc k8' hXc hzc
  have HZ := Lib.hid (HZ.out.trans' hXc (fun q hm hl => by have := List.mem_singleton.1 hm; have := HB8.out; omega))
  have Hc := Lib.hid (Hb.out.local hXc k8 (by decide) (by decide) (by decide) (by have := HB8.out; have := HLOW.out; omega))
  have HSHc := Lib.hid (HSHb.out.local hXc k8 (by decide) (by decide))
  clear hXc hzc k8 k5
  go_wp2_with (fail)
  refine bodyPost_ret (results_agg_tmp rfl _ _ b8 44 _ (0, 0) _ rfl k8' Try.underlying44 rfl hsz rfl) rfl ?_
  exact ⟨v, last, rfl, ⟨es, ks, D, m0, q0, sb, Hc.out, HSHc.out⟩, by omega, HZ.out⟩
set_option maxRecDepth 100000 in
set_option maxHeartbeats 6400000 in
theorem step_take_none (w w0 : World) (lo bb bm bs : Nat) (v : Value) (last : Nat) (es ks : List Ent) (D : DataW Value) (m0 q0 : Ent) (sb : Bool) (h : ExAt w w0 lo bb bm v last es ks D) (hsh : ShelfAt w lo bs m0 q0 sb es) (hla : last ≤ 90000) (s : Stp) (hv : RdB w0 s.m.v s.m.b) (hb3 : s.m.b.length ≤ 3000) (hx : wfI s.x) (hn9 : s.n ≤ 9000) (hk : s.kind = 3) (hf : findE es s.x = none) :
    Calls Try.prog 16 #[.pointer (some ⟨bb, 0, none⟩), .agg (refC v last), .agg s.cells.toArray, .pointer (some ⟨bs, 0, none⟩)] w (StepAns w w0 lo bb bm bs (bb :: bm :: bs :: m0.v.ownBlock.toList) last (1 + s.n.toNat)) := by
  have H := Lib.hid h
  have HSH := Lib.hid hsh
  have HLA := Lib.hid hla
  have HV := Lib.hid hv
  have HB3 := Lib.hid hb3
  have HX := Lib.hid hx
  have HN9 := Lib.hid hn9
  have hsz := size_ref v last
  have hone := one_ref last h.vo
  have HLOW : Hid (lo ≤ w.heap.size) := h.lows
  have hsS := size_stepL s
  have HKD := Lib.hid hk
  have HF := Lib.hid hf
  have HFK := Lib.hid ((core_find h.alike s.x).1.1 hf)
  clear hf
  clear h hsh hla hv hb3 hx hn9 hk
  go_enter Try.func16, Try.ntmps16
  go_wp2_with (with_reducible refine arm_box (by with_unfolding_all exact rfl) ?_)
  intro b5 w1 hb5 k5 hU1 hz1
  change w1.heap[b5]? = some (.cells (refC v last) 44 (0, 0)) at k5
  have HB5 : Hid (w.heap.size ≤ b5) := by show w.heap.size ≤ b5; omega
  have HU1 := Lib.hid hU1
  clear hb5 hU1 hz1
  go_wp2_with (with_reducible refine arm_box (by with_unfolding_all exact rfl) ?_)
  intro b6 w2 hb6 k6 hU2 hz2
  change w2.heap[b6]? = some (.cells s.cells.toArray 52 (0, 0)) at k6
  have HB6 : Hid (w.heap.size ≤ b6) := by show w.heap.size ≤ b6; have := HU1.out.size; omega
  have HK5 := Lib.hid (hU2.heap k5 (by simp))
  have HU2 := Lib.hid (HU1.out.trans hU2)
  clear hb6 hU2 hz2 k5
  go_wp2_with (with_reducible refine arm_alloc (zero_ref _) ?_)
  intro b8 w3 hb8 k8 hU3 hz3
  change w3.heap[b8]? = some (.cells (refC (.slice none 0 0) 0) 44 (0, 0)) at k8
  have HB8 : Hid (w.heap.size ≤ b8) := by show w.heap.size ≤ b8; have := HU2.out.size; omega
  have HN58 : Hid (b5 ≠ b8) := by show b5 ≠ b8; have := lt_of_heap HK5.out; omega
  have HK5 := Lib.hid (hU3.heap HK5.out (by simp))
  have HK6 := Lib.hid (hU3.heap k6 (by simp))
  have HK8 := Lib.hid k8
  have HU3 := Lib.hid (HU2.out.trans hU3)
  have HZ : Hid (Upd (bb :: bm :: bs :: m0.v.ownBlock.toList) w w3) := HU3.out.of0
  have H3 := Lib.hid (H.out.upd0 HU3.out)
  have HSH3 := Lib.hid (HSH.out.upd0 HU3.out)
  have HLO3 : Hid (lo ≤ w3.heap.size ∧ w.heap.size ≤ w3.heap.size) := ⟨by have := HLOW.out; have := HU3.out.size; omega, HU3.out.size⟩
  clear hb8 hU3 hz3 k6 k8
  obtain ⟨kd, hkd⟩ : ∃ q, s.kind = q := ⟨_, rfl⟩
  have ck : w3.cell? ⟨b6, 0, none⟩ = some (.int .i64 kd) := by rw [cell_of_row _ _ _ _ _ _ HK6.out, ← hkd]; rfl
  rw [HKD.out] at hkd
  subst hkd
  have c5 : w3.cell? ⟨b6, 5, none⟩ = some (.int .i64 s.x) := by rw [cell_of_row _ _ _ _ _ _ HK6.out]; rfl
  go_wp2_with (fail)
  refine (take_none _ _ bb bm last es D H3.out.bag s.x HX.out HF.out).mono ?_
  rintro e w4 ⟨rfl, hU4⟩
  have HK5 := Lib.hid (hU4.heap HK5.out (by simp))
  have HK6 := Lib.hid (hU4.heap HK6.out (by simp))
  have HK8 := Lib.hid (hU4.heap HK8.out (by simp))
  have HZ := Lib.hid (HZ.out.trans0 hU4)
  have H4 := Lib.hid (H3.out.upd0 hU4)
  have HSH4 := Lib.hid (HSH3.out.upd0 hU4)
  have HL4 : Hid (w3.heap.size ≤ w4.heap.size) := hU4.size
  have hsy := size_msg 0 0 0 (.slice none 0 0)
  have hoy := one_msg 0 0 0 (v := (.slice none 0 0)) rfl
  clear hU4 c5 ck
  go_wp2_with (with_reducible refine arm_alloc (zero_msg _) ?_)
  intro bA w5 hbA kA hU5 hz5
  change w5.heap[bA]? = some (.cells (msgC 0 0 0 (.slice none 0 0)) 32 (0, 0)) at kA
  have HBA : Hid (w4.heap.size = bA) := hbA
  have HK5 := Lib.hid (hU5.heap HK5.out (by simp))
  have HK6 := Lib.hid (hU5.heap HK6.out (by simp))
  have HK8 := Lib.hid (hU5.heap HK8.out (by simp))
  have HU5 := Lib.hid hU5
  clear hbA hU5 hz5
  go_wp2_with (with_reducible refine arm_store (by with_unfolding_all exact rfl) (by with_unfolding_all exact rfl) kA hsy (by with_unfolding_all exact rfl) hoy ?_)
  intro w6 kA' hX6 hz6
  have k5 := hX6.heap HK5.out (fun hm => heap_ne HK5.out kA (by decide) (List.mem_singleton.1 hm))
  have HK6 := Lib.hid (hX6.heap HK6.out (fun hm => heap_ne HK6.out kA (by decide) (List.mem_singleton.1 hm)))
  have HK8 := Lib.hid (hX6.heap HK8.out (fun hm => heap_ne HK8.out kA (by decide) (List.mem_singleton.1 hm)))
  have HKA := Lib.hid kA'
  have HU6 : Hid (Upd [] w4 w6) := HU5.out.trans' hX6 (fun q hm hl => by have := List.mem_singleton.1 hm; have := HBA.out; omega)
  have H6 := Lib.hid (H4.out.upd0 HU6.out)
  have HRD := Lib.hid H6.out.rdm
  have HSH6 := Lib.hid (HSH4.out.upd0 HU6.out)
  have HZ := Lib.hid (HZ.out.trans0 HU6.out)
  have c5 : w6.cell? ⟨b6, 5, none⟩ = some (.int .i64 s.x) := by rw [cell_of_row _ _ _ _ _ _ HK6.out]; rfl
  clear hX6 hz6 kA kA'
  go_wp2_with (with_reducible refine arm_load (by with_unfolding_all exact rfl) k5 Try.underlying44 (by with_unfolding_all exact rfl) hsz ?_)
  refine (rtake_none _ v last ks HRD.out (by rw [← H.out.len]; exact H.out.bag.room) s.x HFK.out).mono ?_
  rintro e w7 ⟨rfl, hU7⟩
  have H7 := Lib.hid (H6.out.upd0 hU7)
  have hs7 := hsz
  have ho7 := hone
  have HKA := Lib.hid (hU7.heap HKA.out (by simp))
  have HK8 := Lib.hid (hU7.heap HK8.out (by simp))
  have HSH7 := Lib.hid (HSH6.out.upd0 hU7)
  have HZ := Lib.hid (HZ.out.trans0 hU7)
  have hsk := size_msg 0 0 0 (.slice none 0 0)
  have hok := one_msg 0 0 0 (v := (.slice none 0 0)) rfl
  have HLA7 : Hid (bA < w7.heap.size ∧ b8 < w7.heap.size) := ⟨lt_of_heap HKA.out, lt_of_heap HK8.out⟩
  clear hU7 c5 k5
  go_wp2_with (with_reducible refine arm_alloc (zero_ref _) ?_)
  intro bC w8 hbC kC hU8 hz8
  change w8.heap[bC]? = some (.cells (refC (.slice none 0 0) 0) 44 (0, 0)) at kC
  have HBC : Hid (w7.heap.size = bC) := hbC
  have HN8C : Hid (b8 ≠ bC) := by show b8 ≠ bC; have := HLA7.out; have := HBC.out; omega
  have HKA := Lib.hid (hU8.heap HKA.out (by simp))
  have HK8 := Lib.hid (hU8.heap HK8.out (by simp))
  have HLC : Hid (bC < w8.heap.size) := lt_of_heap kC
  have HU8 := Lib.hid hU8
  have HKC := Lib.hid kC
  clear hbC hU8 hz8 kC
  go_wp2_with (with_reducible refine arm_alloc (zero_msg _) ?_)
  intro bD w9 hbD kD hU9 hz9
  change w9.heap[bD]? = some (.cells (msgC 0 0 0 (.slice none 0 0)) 32 (0, 0)) at kD
  have HBD : Hid (w8.heap.size = bD) := hbD
  have HNAD : Hid (bA ≠ bD) := by show bA ≠ bD; have := HLA7.out; have := HBD.out; have := HU8.out.size; omega
  have HKA := Lib.hid (hU9.heap HKA.out (by simp))
  have HK8 := Lib.hid (hU9.heap HK8.out (by simp))
  have kC := hU9.heap HKC.out (by simp)
  have HU9 := Lib.hid (HU8.out.trans hU9)
  have HKD := Lib.hid kD
  clear hbD hU9 hz9 kD
  go_wp2_with (with_reducible refine arm_store (by with_unfolding_all exact rfl) (by with_unfolding_all exact rfl) kC hs7 (by with_unfolding_all exact rfl) ho7 ?_)
  intro wa kC' hXa hza
  have HKA := Lib.hid (hXa.heap HKA.out (fun hm => heap_ne HKA.out kC (by decide) (List.mem_singleton.1 hm)))
  have HK8 := Lib.hid (hXa.heap HK8.out (fun hm => HN8C.out (List.mem_singleton.1 hm)))
  have kD := hXa.heap HKD.out (fun hm => heap_ne HKD.out kC (by decide) (List.mem_singleton.1 hm))
  have HUa : Hid (Upd [] w7 wa) := HU9.out.trans' hXa (fun q hm hl => by have := List.mem_singleton.1 hm; have := HBC.out; omega)
  have HKC := Lib.hid kC'
  clear hXa hza kC kC'
  go_wp2_with (with_reducible refine arm_store (by with_unfolding_all exact rfl) (by with_unfolding_all exact rfl) kD hsk (by with_unfolding_all exact rfl) hok ?_)
  intro wb kD' hXb hzb
  have HKA := Lib.hid (hXb.heap HKA.out (fun hm => HNAD.out (List.mem_singleton.1 hm)))
  have HK8 := Lib.hid (hXb.heap HK8.out (fun hm => heap_ne HK8.out kD (by decide) (List.mem_singleton.1 hm)))
  have HKC := Lib.hid (hXb.heap HKC.out (fun hm => heap_ne HKC.out kD (by decide) (List.mem_singleton.1 hm)))
  have HUb : Hid (Upd [] w7 wb) := HUa.out.trans' hXb (fun q hm hl => by have := List.mem_singleton.1 hm; have := HBD.out; have := HU8.out.size; omega)
  have HZ := Lib.hid (HZ.out.trans0 HUb.out)
  have Hb := Lib.hid (H7.out.upd0 HUb.out)
  have HSHb := Lib.hid (HSH7.out.upd0 HUb.out)
  have HKD := Lib.hid kD'
  have HNA8 : Hid (bA ≠ b8) := fun e => heap_ne HKA.out HK8.out (by decide) e
  have HND8 : Hid (bD ≠ b8) := fun e => heap_ne HKD.out HK8.out (by decide) e
  clear hXb hzb kD kD'
  have HQC : Hid (∀ W, Upd [b8] wb W → ∃ t fr', W.heap[bC]? = some (.cells (refC v last) t fr')) := fun W hW => ⟨_, _, hW.heap HKC.out (by simp; exact fun e => HN8C.out e.symm)⟩
  have HQA : Hid (∀ W, Upd [b8] wb W → ∃ t fr', W.heap[bA]? = some (.cells (msgC 0 0 0 (.slice none 0 0)) t fr')) := fun W hW => ⟨_, _, hW.heap HKA.out (by simp; exact HNA8.out)⟩
  have HQD : Hid (∀ W, Upd [b8] wb W → ∃ t fr', W.heap[bD]? = some (.cells (msgC 0 0 0 (.slice none 0 0)) t fr')) := fun W hW => ⟨_, _, hW.heap HKD.out (by simp; exact HND8.out)⟩
  go_upto_region 14 with (fail)
  go_simp
  refine wp_region_orders [0, 1, 2, 3, 4, 5, 6] (.step 7 (.step 8 (.step 9 (.step 10 .none .none) .none) (.step 9 (.step 8 (.step 10 .none .none) .none) .none)) .none) (Upd [b8] wb) (by kernel_rfl) (by kernel_rfl) (Upd.refl _ _).drew ?_
  refine takeO_cons _ (.agg (refC v last)) rfl (by kernel_rfl) (yields_row (g := bC) (by kernel_rfl) HQC.out Try.underlying44 rfl hs7) ?_
  refine takeO_cons _ (.int .i64 240) rfl (by kernel_rfl) (yields_move (by kernel_rfl)) ?_
  refine takeO_cons _ (.int .i64 240) rfl (by kernel_rfl) (yields_move (by kernel_rfl)) ?_
  refine takeO_cons _ (.bool true) rfl (by kernel_rfl) (fun w _ => by kernel_rfl) ?_
  refine takeO_cons _ (.bool true) rfl (by kernel_rfl) (yields_move (by kernel_rfl)) ?_
  refine takeO_cons _ (.agg (msgC 0 0 0 (.slice none 0 0))) rfl (by kernel_rfl) (yields_row (g := bA) (by kernel_rfl) HQA.out Try.underlying32 rfl hsy) ?_
  refine takeO_cons _ (.agg (msgC 0 0 0 (.slice none 0 0))) rfl (by kernel_rfl) (yields_row (g := bD) (by kernel_rfl) HQD.out Try.underlying32 rfl hsk) ?_
  refine takeO_nil (by simp [Ord.first]) ?_
  have HD2 : Hid (Upd [] wb wb.drew) := (Upd.refl _ _).drew
  refine ordP_step _ (by simp only [List.getElem?_toArray, List.getElem?_cons_succ, List.getElem?_cons_zero]; rfl) ?_ ordP_none
  go_simp
  go_wp2_with (fail)
  refine (sameM_ _ ⟨0, 0, 0, .slice none 0 0, []⟩ ⟨0, 0, 0, .slice none 0 0, []⟩ (RdB.nil _) (RdB.nil _) (by simp) (by simp)).mono ?_
  rintro e wd ⟨rfl, hUd⟩
  have heq : eqCore ⟨0, 0, 0, .slice none 0 0, []⟩ ⟨0, 0, 0, .slice none 0 0, []⟩ = true := (eqCore_iff _ _).2 rfl
  rw [heq]
  have HUd : Hid (Upd [] wb wd) := HD2.out.trans hUd
  have HSd : Hid (Upd [b8] wb wd) := HUd.out.of0
  have k8 := HUd.out.heap HK8.out (by simp)
  have HZ := Lib.hid (HZ.out.trans0 HUd.out)
  have Hd := Lib.hid (Hb.out.upd0 HUd.out)
  have HSHd := Lib.hid (HSHb.out.upd0 HUd.out)
  clear hUd heq
  go_wp2_with (fail)
  refine ord_more (by simp [Ord.first]) HSd.out ?_
  refine ordP_step _ (by simp only [List.getElem?_toArray, List.getElem?_cons_succ, List.getElem?_cons_zero]; rfl) ?_ ?_
  · go_wp2_with (fail)
    refine ord_more (by simp [Ord.first]) HSd.out ?_
    refine ordP_step _ (by simp only [List.getElem?_toArray, List.getElem?_cons_succ, List.getElem?_cons_zero]; rfl) ?_ ordP_none
    with_reducible refine arm_store (by with_unfolding_all exact rfl) (by with_unfolding_all exact rfl) k8 hs7 (by with_unfolding_all exact rfl) ho7 ?_
    intro we k8' hXe hze
    have HZ := Lib.hid (HZ.out.trans' hXe (fun q hm hl => by have := List.mem_singleton.1 hm; have := HB8.out; omega))
    have He := Lib.hid (Hd.out.local hXe k8 (by decide) (by decide) (by decide) (by have := HB8.out; have := HLOW.out; omega))
    have HSHe := Lib.hid (HSHd.out.local hXe k8 (by decide) (by decide))
    have HSe : Hid (Upd [b8] wb we) := HSd.out.trans' hXe (fun q hm _ => by rw [List.mem_singleton.1 hm]; simp)
    clear hXe hze k8
    go_wp2_with (fail)
    refine ord_more (by simp [Ord.first]) HSe.out ?_
    refine ordP_step _ (by simp only [List.getElem?_toArray, List.getElem?_cons_succ, List.getElem?_cons_zero]; rfl) ?_ ordP_none
    go_wp2_with (fail)
    refine ord_last HSe.out ?_
    go_wp2_with (fail)
    refine bodyPost_ret (results_agg_tmp rfl _ _ b8 44 _ (0, 0) _ rfl k8' Try.underlying44 rfl hs7 rfl) rfl ?_
    exact ⟨v, last, rfl, ⟨es, ks, D, m0, q0, sb, He.out, HSHe.out⟩, by omega, HZ.out⟩
  · refine ordP_step _ (by simp only [List.getElem?_toArray, List.getElem?_cons_succ, List.getElem?_cons_zero]; rfl) ?_ ordP_none
    with_reducible refine arm_store (by with_unfolding_all exact rfl) (by with_unfolding_all exact rfl) k8 hs7 (by with_unfolding_all exact rfl) ho7 ?_
    intro we k8' hXe hze
    have HZ := Lib.hid (HZ.out.trans' hXe (fun q hm hl => by have := List.mem_singleton.1 hm; have := HB8.out; omega))
    have He := Lib.hid (Hd.out.local hXe k8 (by decide) (by decide) (by decide) (by have := HB8.out; have := HLOW.out; omega))
    have HSHe := Lib.hid (HSHd.out.local hXe k8 (by decide) (by decide))
    have HSe : Hid (Upd [b8] wb we) := HSd.out.trans' hXe (fun q hm _ => by rw [List.mem_singleton.1 hm]; simp)
    clear hXe hze k8
    go_wp2_with (fail)
    refine ord_more (by simp [Ord.first]) HSe.out ?_
    refine ordP_step _ (by simp only [List.getElem?_toArray, List.getElem?_cons_succ, List.getElem?_cons_zero]; rfl) ?_ ordP_none
    go_wp2_with (fail)
    refine ord_more (by simp [Ord.first]) HSe.out ?_
    refine ordP_step _ (by simp only [List.getElem?_toArray, List.getElem?_cons_succ, List.getElem?_cons_zero]; rfl) ?_ ordP_none
    go_wp2_with (fail)
    refine ord_last HSe.out ?_
    go_wp2_with (fail)
    refine bodyPost_ret (results_agg_tmp rfl _ _ b8 44 _ (0, 0) _ rfl k8' Try.underlying44 rfl hs7 rfl) rfl ?_
    exact ⟨v, last, rfl, ⟨es, ks, D, m0, q0, sb, He.out, HSHe.out⟩, by omega, HZ.out⟩
set_option maxRecDepth 100000 in
set_option maxHeartbeats 6400000 in
theorem step_take_ok (w w0 : World) (lo bb bm bs : Nat) (v : Value) (last : Nat) (es ks : List Ent) (D : DataW Value) (m0 q0 : Ent) (sb : Bool) (h : ExAt w w0 lo bb bm v last es ks D) (hsh : ShelfAt w lo bs m0 q0 sb es) (hla : last ≤ 90000) (s : Stp) (hv : RdB w0 s.m.v s.m.b) (hb3 : s.m.b.length ≤ 3000) (hx : wfI s.x) (hn9 : s.n ≤ 9000) (hk : s.kind = 3) (y : Ent) (hf : findE es s.x = some y) (k : Ent) (hfk : findE ks s.x = some k) :
    Calls Try.prog 16 #[.pointer (some ⟨bb, 0, none⟩), .agg (refC v last), .agg s.cells.toArray, .pointer (some ⟨bs, 0, none⟩)] w (StepAns w w0 lo bb bm bs (bb :: bm :: bs :: m0.v.ownBlock.toList) last (1 + s.n.toNat)) := by
  have H := Lib.hid h
  have HSH := Lib.hid hsh
  have HLA := Lib.hid hla
  have HV := Lib.hid hv
  have HB3 := Lib.hid hb3
  have HX := Lib.hid hx
  have HN9 := Lib.hid hn9
  have hsz := size_ref v last
  have hone := one_ref last h.vo
  have HLOW : Hid (lo ≤ w.heap.size) := h.lows
  have hsS := size_stepL s
  have HKD := Lib.hid hk
  have HF := Lib.hid hf
  have HFK := Lib.hid hfk
  have HYK : Hid (y.core = k.core) := (core_find h.alike s.x).2 y k hf hfk
  have HYB : Hid (y.b.length ≤ 1024) := h.bag.short y (findE_some hf).1
  have hko : k.v.oneCell' = true := by obtain ⟨a, q, e, _⟩ := (h.rd k (findE_some hfk).1).isSlice; rw [e]; rfl
  have hyo : y.v.oneCell' = true := by obtain ⟨a, q, e, _⟩ := (h.bag.rows y (findE_some hf).1).rd.isSlice; rw [e]; rfl
  have HKR := Lib.hid (h.rd k (findE_some hfk).1)
  have HAP := Lib.hid (h.bag.apart_of hf)
  have HM0 : Hid (∀ q, y.v.ownBlock = some q → m0.v.ownBlock ≠ some q) := fun q hq hq2 => hsh.apart y (findE_some hf).1 q hq2 hq
  clear hf hfk
  clear h hsh hla hv hb3 hx hn9 hk
  go_enter Try.func16, Try.ntmps16
  go_wp2_with (with_reducible refine arm_box (by with_unfolding_all exact rfl) ?_)
  intro b5 w1 hb5 k5 hU1 hz1
  change w1.heap[b5]? = some (.cells (refC v last) 44 (0, 0)) at k5
  have HB5 : Hid (w.heap.size ≤ b5) := by show w.heap.size ≤ b5; omega
  have HU1 := Lib.hid hU1
  clear hb5 hU1 hz1
  go_wp2_with (with_reducible refine arm_box (by with_unfolding_all exact rfl) ?_)
  intro b6 w2 hb6 k6 hU2 hz2
  change w2.heap[b6]? = some (.cells s.cells.toArray 52 (0, 0)) at k6
  have HB6 : Hid (w.heap.size ≤ b6) := by show w.heap.size ≤ b6; have := HU1.out.size; omega
  have HK5 := Lib.hid (hU2.heap k5 (by simp))
  have HU2 := Lib.hid (HU1.out.trans hU2)
  clear hb6 hU2 hz2 k5
  go_wp2_with (with_reducible refine arm_alloc (zero_ref _) ?_)
  intro b8 w3 hb8 k8 hU3 hz3
  change w3.heap[b8]? = some (.cells (refC (.slice none 0 0) 0) 44 (0, 0)) at k8
  have HB8 : Hid (w.heap.size ≤ b8) := by show w.heap.size ≤ b8; have := HU2.out.size; omega
  have HN58 : Hid (b5 ≠ b8) := by show b5 ≠ b8; have := lt_of_heap HK5.out; omega
  have HK5 := Lib.hid (hU3.heap HK5.out (by simp))
  have HK6 := Lib.hid (hU3.heap k6 (by simp))
  have HK8 := Lib.hid k8
  have HU3 := Lib.hid (HU2.out.trans hU3)
  have HZ : Hid (Upd (bb :: bm :: bs :: m0.v.ownBlock.toList) w w3) := HU3.out.of0
  have H3 := Lib.hid (H.out.upd0 HU3.out)
  have HSH3 := Lib.hid (HSH.out.upd0 HU3.out)
  have HLO3 : Hid (lo ≤ w3.heap.size ∧ w.heap.size ≤ w3.heap.size) := ⟨by have := HLOW.out; have := HU3.out.size; omega, HU3.out.size⟩
  clear hb8 hU3 hz3 k6 k8
  obtain ⟨kd, hkd⟩ : ∃ q, s.kind = q := ⟨_, rfl⟩
  have ck : w3.cell? ⟨b6, 0, none⟩ = some (.int .i64 kd) := by rw [cell_of_row _ _ _ _ _ _ HK6.out, ← hkd]; rfl
  rw [HKD.out] at hkd
  subst hkd
  have c5 : w3.cell? ⟨b6, 5, none⟩ = some (.int .i64 s.x) := by rw [cell_of_row _ _ _ _ _ _ HK6.out]; rfl
  go_wp2_with (fail)
  refine (take_ _ _ bb bm last es D H3.out.bag s.x HX.out y HF.out).mono ?_
  rintro e w4 ⟨D4, rfl, hB4, hO4, hU4⟩
  unfold Ent.cells
  have HK5 := Lib.hid (hU4.heap HK5.out (H3.out.notbag HK5.out (by decide)))
  have HK6 := Lib.hid (hU4.heap HK6.out (H3.out.notbag HK6.out (by decide)))
  have HK8 := Lib.hid (hU4.heap HK8.out (H3.out.notbag HK8.out (by decide)))
  have HROW : Hid (OwnA w4 lo 32 4 v (ks.map fun t => t.cells.toList)) := H3.out.row.upd hU4 (fun q hq => by obtain ⟨C, fr', h1⟩ := own_type H3.out.row.2 hq; exact H3.out.notbag h1 (by decide))
  have HSI : Hid (Upd [] w0 w4) := H3.out.since.trans' hU4 (fun q hm hl => by simp at hm; have := H.out.low; have := H.out.bag.low; omega)
  have HZ := Lib.hid (HZ.out.trans' hU4 (fun q hm _ => by simp at hm; rcases hm with h | h <;> simp [h]))
  have HB4 := Lib.hid hB4
  have HO4 := Lib.hid hO4
  have HSH4 : Hid (ShelfAt w4 lo bs m0 q0 sb (dropE es s.x)) := HSH3.out.bag H3.out.bag hU4 (fun e he => .inl (drop_sub e he))
  clear hB4 hO4
  have HL4 : Hid (w3.heap.size ≤ w4.heap.size) := hU4.size
  have hsy := size_msg y.id y.fr y.to y.v
  have hoy := one_msg y.id y.fr y.to (v := y.v) hyo
  clear hU4 c5 ck
  go_wp2_with (with_reducible refine arm_alloc (zero_msg _) ?_)
  intro bA w5 hbA kA hU5 hz5
  change w5.heap[bA]? = some (.cells (msgC 0 0 0 (.slice none 0 0)) 32 (0, 0)) at kA
  have HBA : Hid (w4.heap.size = bA) := hbA
  have HK5 := Lib.hid (hU5.heap HK5.out (by simp))
  have HK6 := Lib.hid (hU5.heap HK6.out (by simp))
  have HK8 := Lib.hid (hU5.heap HK8.out (by simp))
  have HU5 := Lib.hid hU5
  clear hbA hU5 hz5
  go_wp2_with (with_reducible refine arm_store (by with_unfolding_all exact rfl) (by with_unfolding_all exact rfl) kA hsy (by with_unfolding_all exact rfl) hoy ?_)
  intro w6 kA' hX6 hz6
  have k5 := hX6.heap HK5.out (fun hm => heap_ne HK5.out kA (by decide) (List.mem_singleton.1 hm))
  have HK6 := Lib.hid (hX6.heap HK6.out (fun hm => heap_ne HK6.out kA (by decide) (List.mem_singleton.1 hm)))
  have HK8 := Lib.hid (hX6.heap HK8.out (fun hm => heap_ne HK8.out kA (by decide) (List.mem_singleton.1 hm)))
  have HKA := Lib.hid kA'
  have HU6 : Hid (Upd [] w4 w6) := HU5.out.trans' hX6 (fun q hm hl => by have := List.mem_singleton.1 hm; have := HBA.out; omega)
  have HB6g := Lib.hid (HB4.out.upd0 HU6.out)
  have HO6 := Lib.hid (HO4.out.upd0 HU6.out)
  have HROW6 := Lib.hid (HROW.out.upd0 HU6.out)
  have HSI6 := Lib.hid (HSI.out.trans HU6.out)
  have HRD : Hid (RdM w6 v ks) := ⟨HROW6.out.rd, fun k hk => (H.out.rd k hk).upd0 HSI6.out⟩
  have HSH6 := Lib.hid (HSH4.out.upd0 HU6.out)
  have HZ := Lib.hid (HZ.out.trans0 HU6.out)
  have c5 : w6.cell? ⟨b6, 5, none⟩ = some (.int .i64 s.x) := by rw [cell_of_row _ _ _ _ _ _ HK6.out]; rfl
  clear hX6 hz6 kA kA'
  go_wp2_with (with_reducible refine arm_load (by with_unfolding_all exact rfl) k5 Try.underlying44 (by with_unfolding_all exact rfl) hsz ?_)
  refine (rtake_ok _ v last ks HRD.out (by rw [← H.out.len]; exact H.out.bag.room) s.x k HFK.out).mono ?_
  rintro e w7 ⟨v7, rfl, hO7, hU7⟩
  unfold Ent.cells
  have HROW7 : Hid (OwnA w7 lo 32 4 v7 ((dropE ks s.x).map fun t => t.cells.toList)) := hO7.mono (fun q hq => by have := (hO7.lt q hq).1; have := HLO3.out; have := HL4.out; have := HU6.out.size; omega)
  have H7 : Hid (ExAt w7 w0 lo bb bm v7 last (dropE es s.x) (dropE ks s.x) D4) := ⟨HB6g.out.upd0 hU7, drop_core H.out.alike s.x, HROW7.out, fun k hk => H.out.rd k (drop_sub k hk), HSI6.out.trans hU7, H.out.low⟩
  have HO7 := Lib.hid (HO6.out.upd0 hU7)
  have hv7 : v7.oneCell' = true := H7.out.vo
  have hs7 := size_ref v7 last
  have ho7 := one_ref last hv7
  clear hO7
  have HKA := Lib.hid (hU7.heap HKA.out (by simp))
  have HK8 := Lib.hid (hU7.heap HK8.out (by simp))
  have HSH7 := Lib.hid (HSH6.out.upd0 hU7)
  have HZ := Lib.hid (HZ.out.trans0 hU7)
  have hsk := size_msg k.id k.fr k.to k.v
  have hok := one_msg k.id k.fr k.to (v := k.v) hko
  have HLA7 : Hid (bA < w7.heap.size ∧ b8 < w7.heap.size) := ⟨lt_of_heap HKA.out, lt_of_heap HK8.out⟩
  clear hU7 c5 k5
  go_wp2_with (with_reducible refine arm_alloc (zero_ref _) ?_)
  intro bC w8 hbC kC hU8 hz8
  change w8.heap[bC]? = some (.cells (refC (.slice none 0 0) 0) 44 (0, 0)) at kC
  have HBC : Hid (w7.heap.size = bC) := hbC
  have HN8C : Hid (b8 ≠ bC) := by show b8 ≠ bC; have := HLA7.out; have := HBC.out; omega
  have HKA := Lib.hid (hU8.heap HKA.out (by simp))
  have HK8 := Lib.hid (hU8.heap HK8.out (by simp))
  have HLC : Hid (bC < w8.heap.size) := lt_of_heap kC
  have HU8 := Lib.hid hU8
  have HKC := Lib.hid kC
  clear hbC hU8 hz8 kC
  go_wp2_with (with_reducible refine arm_alloc (zero_msg _) ?_)
  intro bD w9 hbD kD hU9 hz9
  change w9.heap[bD]? = some (.cells (msgC 0 0 0 (.slice none 0 0)) 32 (0, 0)) at kD
  have HBD : Hid (w8.heap.size = bD) := hbD
  have HNAD : Hid (bA ≠ bD) := by show bA ≠ bD; have := HLA7.out; have := HBD.out; have := HU8.out.size; omega
  have HKA := Lib.hid (hU9.heap HKA.out (by simp))
  have HK8 := Lib.hid (hU9.heap HK8.out (by simp))
  have kC := hU9.heap HKC.out (by simp)
  have HU9 := Lib.hid (HU8.out.trans hU9)
  have HKD := Lib.hid kD
  clear hbD hU9 hz9 kD
  go_wp2_with (with_reducible refine arm_store (by with_unfolding_all exact rfl) (by with_unfolding_all exact rfl) kC hs7 (by with_unfolding_all exact rfl) ho7 ?_)
  intro wa kC' hXa hza
  have HKA := Lib.hid (hXa.heap HKA.out (fun hm => heap_ne HKA.out kC (by decide) (List.mem_singleton.1 hm)))
  have HK8 := Lib.hid (hXa.heap HK8.out (fun hm => HN8C.out (List.mem_singleton.1 hm)))
  have kD := hXa.heap HKD.out (fun hm => heap_ne HKD.out kC (by decide) (List.mem_singleton.1 hm))
  have HUa : Hid (Upd [] w7 wa) := HU9.out.trans' hXa (fun q hm hl => by have := List.mem_singleton.1 hm; have := HBC.out; omega)
  have HKC := Lib.hid kC'
  clear hXa hza kC kC'
  go_wp2_with (with_reducible refine arm_store (by with_unfolding_all exact rfl) (by with_unfolding_all exact rfl) kD hsk (by with_unfolding_all exact rfl) hok ?_)
  intro wb kD' hXb hzb
  have HKA := Lib.hid (hXb.heap HKA.out (fun hm => HNAD.out (List.mem_singleton.1 hm)))
  have HK8 := Lib.hid (hXb.heap HK8.out (fun hm => heap_ne HK8.out kD (by decide) (List.mem_singleton.1 hm)))
  have HKC := Lib.hid (hXb.heap HKC.out (fun hm => heap_ne HKC.out kD (by decide) (List.mem_singleton.1 hm)))
  have HUb : Hid (Upd [] w7 wb) := HUa.out.trans' hXb (fun q hm hl => by have := List.mem_singleton.1 hm; have := HBD.out; have := HU8.out.size; omega)
  have HZ := Lib.hid (HZ.out.trans0 HUb.out)
  have Hb := Lib.hid (H7.out.upd0 HUb.out)
  have HSHb := Lib.hid (HSH7.out.upd0 HUb.out)
  have HKD := Lib.hid kD'
  have HNA8 : Hid (bA ≠ b8) := fun e => heap_ne HKA.out HK8.out (by decide) e
  have HND8 : Hid (bD ≠ b8) := fun e => heap_ne HKD.out HK8.out (by decide) e
  clear hXb hzb kD kD'
  have HT8 : Hid (∀ {k : Nat} {C : Array Value} {T : TypeId} {fr' : Nat × Nat}, wb.heap[k]? = some (.cells C T fr') → k ≠ b8 → T ≠ 5 → T ≠ 48 → k ∉ b8 :: bs :: m0.v.ownBlock.toList) := fun {k C T fr'} h1 h2 h3 h4 hm => by
    simp only [List.mem_cons, Option.mem_toList] at hm
    rcases hm with e | e | e
    · exact h2 e
    · exact heap_ne h1 HSHb.out.cells h4 e
    · exact cells_ne HSHb.out.own h1 h3 e
  have HQC : Hid (∀ W, Upd (b8 :: bs :: m0.v.ownBlock.toList) wb W → ∃ t fr', W.heap[bC]? = some (.cells (refC v7 last) t fr')) := fun W hW => ⟨_, _, hW.heap HKC.out (HT8.out HKC.out (fun e => HN8C.out e.symm) (by decide) (by decide))⟩
  have HQA : Hid (∀ W, Upd (b8 :: bs :: m0.v.ownBlock.toList) wb W → ∃ t fr', W.heap[bA]? = some (.cells (msgC y.id y.fr y.to y.v) t fr')) := fun W hW => ⟨_, _, hW.heap HKA.out (HT8.out HKA.out HNA8.out (by decide) (by decide))⟩
  have HQD : Hid (∀ W, Upd (b8 :: bs :: m0.v.ownBlock.toList) wb W → ∃ t fr', W.heap[bD]? = some (.cells (msgC k.id k.fr k.to k.v) t fr')) := fun W hW => ⟨_, _, hW.heap HKD.out (HT8.out HKD.out HND8.out (by decide) (by decide))⟩
  go_upto_region 15 with (fail)
  go_simp
  refine wp_region_orders [0, 1, 2, 3, 4, 5, 6, 7] (.step 8 (.step 9 (.step 10 (.step 11 .none .none) .none) (.step 10 (.step 9 (.step 11 .none .none) .none) .none)) .none) (Upd (b8 :: bs :: m0.v.ownBlock.toList) wb) (by kernel_rfl) (by kernel_rfl) (Upd.refl _ _).drew ?_
  refine takeO_cons _ (.agg (refC v7 last)) rfl (by kernel_rfl) (yields_row (g := bC) (by kernel_rfl) HQC.out Try.underlying44 rfl hs7) ?_
  refine takeO_cons _ (.int .i64 0) rfl (by kernel_rfl) (yields_move (by kernel_rfl)) ?_
  refine takeO_cons _ (.int .i64 0) rfl (by kernel_rfl) (yields_move (by kernel_rfl)) ?_
  refine takeO_cons _ (.bool true) rfl (by kernel_rfl) (fun w _ => by kernel_rfl) ?_
  refine takeO_cons _ (.bool true) rfl (by kernel_rfl) (yields_move (by kernel_rfl)) ?_
  refine takeO_cons _ (.pointer (some ⟨bs, 0, none⟩)) rfl (by kernel_rfl) (yields_move (by kernel_rfl)) ?_
  refine takeO_cons _ (.agg (msgC y.id y.fr y.to y.v)) rfl (by kernel_rfl) (yields_row (g := bA) (by kernel_rfl) HQA.out Try.underlying32 rfl hsy) ?_
  refine takeO_cons _ (.agg (msgC k.id k.fr k.to k.v)) rfl (by kernel_rfl) (yields_row (g := bD) (by kernel_rfl) HQD.out Try.underlying32 rfl hsk) ?_
  refine takeO_nil (by simp [Ord.first]) ?_
  have HD2 : Hid (Upd [] wb wb.drew) := (Upd.refl _ _).drew
  refine ordP_step _ (by simp only [List.getElem?_toArray, List.getElem?_cons_succ, List.getElem?_cons_zero]; rfl) ?_ ordP_none
  go_simp
  go_wp2_with (fail)
  refine (taken_ _ w0 lo bs m0 q0 sb (dropE es s.x) (HSHb.out.upd0 HD2.out) (Hb.out.since.trans HD2.out) H.out.low (Hb.out.upd0 HD2.out).lows y k ((HO7.out.upd0 HUb.out).upd0 HD2.out) HKR.out HYK.out HYB.out HM0.out HAP.out).mono ?_
  rintro e wd ⟨vw, rfl, hSH, hUd⟩
  have HUd : Hid (Upd (bs :: m0.v.ownBlock.toList) wb wd) := (HD2.out.of0).trans hUd
  have HSd : Hid (Upd (b8 :: bs :: m0.v.ownBlock.toList) wb wd) := HUd.out.mono (fun i hm _ => List.mem_cons_of_mem _ hm)
  have k8 := HUd.out.heap HK8.out (fun hm => by
    simp only [List.mem_cons, Option.mem_toList] at hm
    rcases hm with e | e
    · exact heap_ne HK8.out HSHb.out.cells (by decide) e
    · exact cells_ne HSHb.out.own HK8.out (by decide) e)
  have Hd : Hid (ExAt wd w0 lo bb bm v7 last (dropE es s.x) (dropE ks s.x) D4) := Hb.out.off HUd.out (fun q hm => by
    simp only [List.mem_cons, Option.mem_toList] at hm
    rcases hm with rfl | hm
    · exact ⟨HSHb.out.low, ⟨_, _, _, HSHb.out.cells, by decide, by decide⟩, fun e he hk2 => cells_ne (Hb.out.bag.rows e he) HSHb.out.cells (by decide) hk2⟩
    · obtain ⟨C, fr', h1⟩ := own_type HSHb.out.own hm
      exact ⟨(HSHb.out.own.lt q hm).1, ⟨_, _, _, h1, by decide, by decide⟩, fun e he hk2 => HSHb.out.apart e he q hm hk2⟩)
  have HZ := Lib.hid (HZ.out.trans' HUd.out (fun q hm _ => by simp at hm; rcases hm with h | h <;> simp [h]))
  have HSHd := Lib.hid hSH
  clear hUd hSH
  go_wp2_with (fail)
  refine ord_more (by simp [Ord.first]) HSd.out ?_
  refine ordP_step _ (by simp only [List.getElem?_toArray, List.getElem?_cons_succ, List.getElem?_cons_zero]; rfl) ?_ ?_
  · go_wp2_with (fail)
    refine ord_more (by simp [Ord.first]) HSd.out ?_
    refine ordP_step _ (by simp only [List.getElem?_toArray, List.getElem?_cons_succ, List.getElem?_cons_zero]; rfl) ?_ ordP_none
    with_reducible refine arm_store (by with_unfolding_all exact rfl) (by with_unfolding_all exact rfl) k8 hs7 (by with_unfolding_all exact rfl) ho7 ?_
    intro we k8' hXe hze
    have HZ := Lib.hid (HZ.out.trans' hXe (fun q hm hl => by have := List.mem_singleton.1 hm; have := HB8.out; omega))
    have He := Lib.hid (Hd.out.local hXe k8 (by decide) (by decide) (by decide) (by have := HB8.out; have := HLOW.out; omega))
    have HSHe := Lib.hid (HSHd.out.local hXe k8 (by decide) (by decide))
    have HSe : Hid (Upd (b8 :: bs :: m0.v.ownBlock.toList) wb we) := HSd.out.trans' hXe (fun q hm _ => by rw [List.mem_singleton.1 hm]; simp)
    clear hXe hze k8
    go_wp2_with (fail)
    refine ord_more (by simp [Ord.first]) HSe.out ?_
    refine ordP_step _ (by simp only [List.getElem?_toArray, List.getElem?_cons_succ, List.getElem?_cons_zero]; rfl) ?_ ordP_none
    go_wp2_with (fail)
    refine ord_last HSe.out ?_
    go_wp2_with (fail)
    refine bodyPost_ret (results_agg_tmp rfl _ _ b8 44 _ (0, 0) _ rfl k8' Try.underlying44 rfl hs7 rfl) rfl ?_
    exact ⟨v7, last, rfl, ⟨dropE es s.x, dropE ks s.x, D4, y, _, true, He.out, HSHe.out⟩, by omega, HZ.out⟩
  · refine ordP_step _ (by simp only [List.getElem?_toArray, List.getElem?_cons_succ, List.getElem?_cons_zero]; rfl) ?_ ordP_none
    with_reducible refine arm_store (by with_unfolding_all exact rfl) (by with_unfolding_all exact rfl) k8 hs7 (by with_unfolding_all exact rfl) ho7 ?_
    intro we k8' hXe hze
    have HZ := Lib.hid (HZ.out.trans' hXe (fun q hm hl => by have := List.mem_singleton.1 hm; have := HB8.out; omega))
    have He := Lib.hid (Hd.out.local hXe k8 (by decide) (by decide) (by decide) (by have := HB8.out; have := HLOW.out; omega))
    have HSHe := Lib.hid (HSHd.out.local hXe k8 (by decide) (by decide))
    have HSe : Hid (Upd (b8 :: bs :: m0.v.ownBlock.toList) wb we) := HSd.out.trans' hXe (fun q hm _ => by rw [List.mem_singleton.1 hm]; simp)
    clear hXe hze k8
    go_wp2_with (fail)
    refine ord_more (by simp [Ord.first]) HSe.out ?_
    refine ordP_step _ (by simp only [List.getElem?_toArray, List.getElem?_cons_succ, List.getElem?_cons_zero]; rfl) ?_ ordP_none
    go_wp2_with (fail)
    refine ord_more (by simp [Ord.first]) HSe.out ?_
    refine ordP_step _ (by simp only [List.getElem?_toArray, List.getElem?_cons_succ, List.getElem?_cons_zero]; rfl) ?_ ordP_none
    go_wp2_with (fail)
    refine ord_last HSe.out ?_
    go_wp2_with (fail)
    refine bodyPost_ret (results_agg_tmp rfl _ _ b8 44 _ (0, 0) _ rfl k8' Try.underlying44 rfl hs7 rfl) rfl ?_
    exact ⟨v7, last, rfl, ⟨dropE es s.x, dropE ks s.x, D4, y, _, true, He.out, HSHe.out⟩, by omega, HZ.out⟩
set_option maxRecDepth 100000 in
set_option maxHeartbeats 6400000 in
theorem step_double (w w0 : World) (lo bb bm bs : Nat) (v : Value) (last : Nat) (es ks : List Ent) (D : DataW Value) (m0 q0 : Ent) (sb : Bool) (h : ExAt w w0 lo bb bm v last es ks D) (hsh : ShelfAt w lo bs m0 q0 sb es) (hla : last ≤ 90000) (s : Stp) (hv : RdB w0 s.m.v s.m.b) (hb3 : s.m.b.length ≤ 3000) (hx : wfI s.x) (hn9 : s.n ≤ 9000) (hk : s.kind = 4) :
    Calls Try.prog 16 #[.pointer (some ⟨bb, 0, none⟩), .agg (refC v last), .agg s.cells.toArray, .pointer (some ⟨bs, 0, none⟩)] w (StepAns w w0 lo bb bm bs (bb :: bm :: bs :: m0.v.ownBlock.toList) last (1 + s.n.toNat)) := by
  have H := Lib.hid h
  have HSH := Lib.hid hsh
  have HLA := Lib.hid hla
  have HV := Lib.hid hv
  have HB3 := Lib.hid hb3
  have HX := Lib.hid hx
  have HN9 := Lib.hid hn9
  have hsz := size_ref v last
  have hone := one_ref last h.vo
  have HLOW : Hid (lo ≤ w.heap.size) := h.lows
  have hsS := size_stepL s
  have HKD := Lib.hid hk
  clear h hsh hla hv hb3 hx hn9 hk
  go_enter Try.func16, Try.ntmps16
  go_wp2_with (with_reducible refine arm_box (by with_unfolding_all exact rfl) ?_)
  intro b5 w1 hb5 k5 hU1 hz1
  change w1.heap[b5]? = some (.cells (refC v last) 44 (0, 0)) at k5
  have HB5 : Hid (w.heap.size ≤ b5) := by show w.heap.size ≤ b5; omega
  have HU1 := Lib.hid hU1
  clear hb5 hU1 hz1
  go_wp2_with (with_reducible refine arm_box (by with_unfolding_all exact rfl) ?_)
  intro b6 w2 hb6 k6 hU2 hz2
  change w2.heap[b6]? = some (.cells s.cells.toArray 52 (0, 0)) at k6
  have HB6 : Hid (w.heap.size ≤ b6) := by show w.heap.size ≤ b6; have := HU1.out.size; omega
  have HK5 := Lib.hid (hU2.heap k5 (by simp))
  have HU2 := Lib.hid (HU1.out.trans hU2)
  clear hb6 hU2 hz2 k5
  go_wp2_with (with_reducible refine arm_alloc (zero_ref _) ?_)
  intro b8 w3 hb8 k8 hU3 hz3
  change w3.heap[b8]? = some (.cells (refC (.slice none 0 0) 0) 44 (0, 0)) at k8
  have HB8 : Hid (w.heap.size ≤ b8) := by show w.heap.size ≤ b8; have := HU2.out.size; omega
  have HN58 : Hid (b5 ≠ b8) := by show b5 ≠ b8; have := lt_of_heap HK5.out; omega
  have HK5 := Lib.hid (hU3.heap HK5.out (by simp))
  have HK6 := Lib.hid (hU3.heap k6 (by simp))
  have HK8 := Lib.hid k8
  have HU3 := Lib.hid (HU2.out.trans hU3)
  have HZ : Hid (Upd (bb :: bm :: bs :: m0.v.ownBlock.toList) w w3) := HU3.out.of0
  have H3 := Lib.hid (H.out.upd0 HU3.out)
  have HSH3 := Lib.hid (HSH.out.upd0 HU3.out)
  have HLO3 : Hid (lo ≤ w3.heap.size ∧ w.heap.size ≤ w3.heap.size) := ⟨by have := HLOW.out; have := HU3.out.size; omega, HU3.out.size⟩
  clear hb8 hU3 hz3 k6 k8
  obtain ⟨kd, hkd⟩ : ∃ q, s.kind = q := ⟨_, rfl⟩
  have ck : w3.cell? ⟨b6, 0, none⟩ = some (.int .i64 kd) := by rw [cell_of_row _ _ _ _ _ _ HK6.out, ← hkd]; rfl
  rw [HKD.out] at hkd
  subst hkd
  obtain ⟨sn, hsn⟩ : ∃ n, s.n = n := ⟨_, rfl⟩
  have HSN := Lib.hid hsn
  clear hsn
  go_wp2_with (fail)
  clear ck
  go_loopw [20] (fun iv wr => ∃ (i : Nat) (v' : Value) (last' : Nat) (es' ks' : List Ent) (D' : DataW Value), iv = .int .i64 i ∧ i ≤ sn.toNat ∧ ExAt wr w0 lo bb bm v' last' es' ks' D' ∧ ShelfAt wr lo bs m0 q0 sb es' ∧ wr.heap[b5]? = some (.cells (refC v' last') 44 (0, 0)) ∧ wr.heap[b6]? = some (.cells s.cells.toArray 52 (0, 0)) ∧ wr.heap[b8]? = some (.cells (refC (.slice none 0 0) 0) 44 (0, 0)) ∧ last' ≤ last + i ∧ Upd (bb :: bm :: bs :: m0.v.ownBlock.toList) w wr) (fun iv _ => sn.toNat - (intOf iv).toNat)
  case atStart => exact ⟨0, v, last, es, ks, D, rfl, Nat.zero_le _, H3.out, HSH3.out, HK5.out, HK6.out, HK8.out, Nat.le_refl _, HZ.out⟩
  case round =>
    obtain ⟨i, v1, last1, es1, ks1, D1, rfl, hi, hE, hS, k5, hk6, hk8, hl1, hZ⟩ := hrel
    have HZ := Lib.hid hZ
    have HE := Lib.hid hE
    have HS := Lib.hid hS
    have HK5 := Lib.hid k5
    have HK6 := Lib.hid hk6
    have HK8 := Lib.hid hk8
    have HL1 : Hid (last1 ≤ last + i) := hl1
    have HI : Hid (i ≤ sn.toNat) := hi
    have hsz := size_ref v1 last1
    have hone := one_ref last1 hE.vo
    have hsn9 : sn ≤ 9000 := by rw [← HSN.out]; exact HN9.out
    have HLA1 : Hid (last1 ≤ 100000) := by show last1 ≤ 100000; have := HLA.out; omega
    have c5 : wr.cell? ⟨b6, 5, none⟩ = some (.int .i64 s.x) := by rw [cell_of_row _ _ _ _ _ _ hk6]; rfl
    have c6 : wr.cell? ⟨b6, 6, none⟩ = some (.int .i64 sn) := by rw [cell_of_row _ _ _ _ _ _ hk6, ← HSN.out]; rfl
    clear hE hS hk6 hk8 hl1 hi hZ
    by_cases hlt : (i : Int) < sn
    · have hi9 : (i : Int) ≤ 9000 := by omega
      have hid : decide ((i : Int) < sn) = true := by simp; exact hlt
      have HLT : Hid (i + 1 ≤ sn.toNat) := by show i + 1 ≤ sn.toNat; omega
      clear hlt
      cases hy : findE es1 s.x with
      | none =>
        have HF := Lib.hid hy
        have HFK := Lib.hid ((core_find HE.out.alike s.x).1.1 hy)
        clear hy k5
        go_wp2_with (fail)
        refine (double_none _ lo bb bm last1 es1 D1 HE.out.bag s.x HX.out HF.out).mono ?_
        rintro e w4 ⟨rfl, hU4⟩
        have HZ := Lib.hid (HZ.out.trans0 hU4)
        have HE2 := Lib.hid (HE.out.upd0 hU4)
        have HS2 := Lib.hid (HS.out.upd0 hU4)
        have k5 := hU4.heap HK5.out (by simp)
        have HK6 := Lib.hid (hU4.heap HK6.out (by simp))
        have HK8 := Lib.hid (hU4.heap HK8.out (by simp))
        have c5 : w4.cell? ⟨b6, 5, none⟩ = some (.int .i64 s.x) := by rw [cell_of_row _ _ _ _ _ _ HK6.out]; rfl
        clear hU4
        go_wp2_with (with_reducible refine arm_load (by with_unfolding_all exact rfl) k5 Try.underlying44 (by with_unfolding_all exact rfl) hsz ?_)
        refine (rdouble_none _ v1 last1 ks1 (HE2.out.rdm) s.x (by rw [← HE.out.len]; exact HE.out.bag.room) HFK.out).mono ?_
        rintro e w5 ⟨rfl, hU5⟩
        have HE3 := Lib.hid (HE2.out.upd0 hU5)
        have HS3 := Lib.hid (HS2.out.upd0 hU5)
        have hs5 := hsz
        have ho5 := hone
        have HZ := Lib.hid (HZ.out.trans0 hU5)
        have HK5 := Lib.hid (hU5.heap k5 (by simp))
        have HK6 := Lib.hid (hU5.heap HK6.out (by simp))
        have HK8 := Lib.hid (hU5.heap HK8.out (by simp))
        clear hU5 c5 k5
        go_wp2_with (with_reducible refine arm_alloc (zero_ref _) ?_)
        intro bC w6 hbC kC hU6 hz6
        change w6.heap[bC]? = some (.cells (refC (.slice none 0 0) 0) 44 (0, 0)) at kC
        have HBC : Hid (w5.heap.size = bC) := hbC
        have HLC : Hid (lo ≤ bC) := by show lo ≤ bC; have := HE3.out.lows; have := HBC.out; omega
        have HN5C : Hid (b5 ≠ bC) := by show b5 ≠ bC; have := lt_of_heap HK5.out; have := HBC.out; omega
        have HN8C : Hid (b8 ≠ bC) := by show b8 ≠ bC; have := lt_of_heap HK8.out; have := HBC.out; omega
        have HK5 := Lib.hid (hU6.heap HK5.out (by simp))
        have HK6 := Lib.hid (hU6.heap HK6.out (by simp))
        have HK8 := Lib.hid (hU6.heap HK8.out (by simp))
        have HWC : Hid (w.heap.size ≤ bC) := by show w.heap.size ≤ bC; have := HZ.out.size; have := HBC.out; omega
        have HZ := Lib.hid (HZ.out.trans0 hU6)
        have HE4 := Lib.hid (HE3.out.upd0 hU6)
        have HS4 := Lib.hid (HS3.out.upd0 hU6)
        clear hbC hU6 hz6
        go_wp2_with (with_reducible refine arm_store (by with_unfolding_all exact rfl) (by with_unfolding_all exact rfl) kC hs5 (by with_unfolding_all exact rfl) ho5 ?_)
        intro w7 kC' hX7 hz7
        have HK5 := Lib.hid (hX7.heap HK5.out (fun hm => HN5C.out (List.mem_singleton.1 hm)))
        have k5 := HK5.out
        have HK6 := Lib.hid (hX7.heap HK6.out (fun hm => heap_ne HK6.out kC (by decide) (List.mem_singleton.1 hm)))
        have HK8 := Lib.hid (hX7.heap HK8.out (fun hm => HN8C.out (List.mem_singleton.1 hm)))
        have HZ := Lib.hid (HZ.out.trans' hX7 (fun q hm hl => by have := List.mem_singleton.1 hm; have := HWC.out; omega))
        have HE5 := Lib.hid (HE4.out.local hX7 kC (by decide) (by decide) (by decide) HLC.out)
        have HS5 := Lib.hid (HS4.out.local hX7 kC (by decide) (by decide))
        clear hX7 hz7 kC
        go_wp2_with (first
          | (with_reducible refine arm_load (by with_unfolding_all exact rfl) kC' Try.underlying44 (by with_unfolding_all exact rfl) hs5 ?_)
          | (with_reducible refine arm_store (by with_unfolding_all exact rfl) (by with_unfolding_all exact rfl) k5 hs5 (by with_unfolding_all exact rfl) ho5 ?_))
        intro w8 k5' hX8 hz8
        have HK6 := Lib.hid (hX8.heap HK6.out (fun hm => heap_ne HK6.out k5 (by decide) (List.mem_singleton.1 hm)))
        have HK8 := Lib.hid (hX8.heap HK8.out (fun hm => HN58.out (List.mem_singleton.1 hm).symm))
        have HZ := Lib.hid (HZ.out.trans' hX8 (fun q hm hl => by have := List.mem_singleton.1 hm; have := HB5.out; omega))
        have HE6 := Lib.hid (HE5.out.local hX8 k5 (by decide) (by decide) (by decide) (by have := HB5.out; have := HLOW.out; omega))
        have HS6 := Lib.hid (HS5.out.local hX8 k5 (by decide) (by decide))
        have HK5 := Lib.hid k5'
        clear hX8 hz8 k5 kC'
        have k8 := HK8.out
        go_wp2_with (first
          | (with_reducible refine arm_load (by with_unfolding_all exact rfl) k5' Try.underlying44 (by with_unfolding_all exact rfl) hsz ?_)
          | (with_reducible refine arm_store (by with_unfolding_all exact rfl) (by with_unfolding_all exact rfl) k8 hsz (by with_unfolding_all exact rfl) hone ?_))
        intro w9 k8' hX9 hz9
        have HZ := Lib.hid (HZ.out.trans' hX9 (fun q hm hl => by have := List.mem_singleton.1 hm; have := HB8.out; omega))
        have HE7 := Lib.hid (HE6.out.local hX9 k8 (by decide) (by decide) (by decide) (by have := HB8.out; have := HLOW.out; omega))
        have HS7 := Lib.hid (HS6.out.local hX9 k8 (by decide) (by decide))
        clear hX9 hz9 k8 k5'
        go_wp2_with (fail)
        refine bodyPost_ret (results_agg_tmp rfl _ _ b8 44 _ (0, 0) _ rfl k8' Try.underlying44 rfl hsz rfl) rfl ?_
        exact ⟨v1, last1, rfl, ⟨es1, ks1, D1, m0, q0, sb, HE7.out, HS7.out⟩, by have := HL1.out; have := HLT.out; have := HSN.out; omega, HZ.out⟩
      | some y =>
        have HF := Lib.hid hy
        clear k5
        cases hk : findE ks1 s.x with
        | none => exact absurd ((core_find HE.out.alike s.x).1.2 hk) (by rw [hy]; simp)
        | some k =>
          have HFK := Lib.hid hk
          have HYK : Hid (y.core = k.core) := (core_find HE.out.alike s.x).2 y k hy hk
          have HKR := Lib.hid (HE.out.rd k (findE_some hk).1)
          clear hy hk
          rcases Nat.lt_or_eq_of_le HE.out.bag.room with hr | hr
          · have HR : Hid (es1.length < 4096) := hr
            clear hr
            go_wp2_with (fail)
            refine (double_ _ lo bb bm last1 es1 D1 HE.out.bag s.x HX.out y HF.out HLA1.out HR.out).mono ?_
            rintro e w4 ⟨v4, D4, rfl, hB4, hn4, hU4⟩
            have HZ := Lib.hid (HZ.out.trans' hU4 (fun q hm _ => by simp at hm; rcases hm with h | h <;> simp [h]))
            have HB4 := Lib.hid hB4
            have k5 := hU4.heap HK5.out (HE.out.notbag HK5.out (by decide))
            have HK6 := Lib.hid (hU4.heap HK6.out (HE.out.notbag HK6.out (by decide)))
            have HK8 := Lib.hid (hU4.heap HK8.out (HE.out.notbag HK8.out (by decide)))
            have HROW : Hid (OwnA w4 lo 32 4 v1 (ks1.map fun t => t.cells.toList)) := HE.out.row.upd hU4 (fun q hq => by obtain ⟨C, fr', h1⟩ := own_type HE.out.row.2 hq; exact HE.out.notbag h1 (by decide))
            have HSI : Hid (Upd [] w0 w4) := HE.out.since.trans' hU4 (fun q hm hl => by simp at hm; have := H.out.low; have := H.out.bag.low; omega)
            have HRD : Hid (RdM w4 v1 ks1) := ⟨HROW.out.rd, fun k hk => (HE.out.rd k hk).upd0 HSI.out⟩
            have HS2 : Hid (ShelfAt w4 lo bs m0 q0 sb (es1 ++ [⟨(last1 : Int) + 1, y.fr, y.to, v4, y.b⟩])) := HS.out.bag HE.out.bag hU4 (fun x hx => (List.mem_append.1 hx).imp (fun h => h) (fun h k hk => by rw [List.mem_singleton.1 h] at hk; exact hn4 k hk))
            have HLO4 : Hid (lo ≤ w4.heap.size) := Nat.le_trans HE.out.lows hU4.size
            clear hB4 hn4
            have c5 : w4.cell? ⟨b6, 5, none⟩ = some (.int .i64 s.x) := by rw [cell_of_row _ _ _ _ _ _ HK6.out]; rfl
            clear hU4
            go_wp2_with (with_reducible refine arm_load (by with_unfolding_all exact rfl) k5 Try.underlying44 (by with_unfolding_all exact rfl) hsz ?_)
            refine (rdouble_ok _ v1 last1 ks1 HRD.out s.x (by rw [← HE.out.len]; exact HR.out) HLA1.out k HFK.out).mono ?_
            rintro e w5 ⟨v5, rfl, hO5, hU5⟩
            have HE3 : Hid (ExAt w5 w0 lo bb bm v5 (last1 + 1) (es1 ++ [⟨(last1 : Int) + 1, y.fr, y.to, v4, y.b⟩]) (ks1 ++ [k.as ((last1 : Int) + 1)]) D4) := ⟨HB4.out.upd0 hU5, by
              rw [List.map_append, List.map_append, HE.out.alike]
              have e := HYK.out
              simp only [Ent.core, Prod.mk.injEq] at e
              simp only [List.map_cons, List.map_nil, Ent.core, Ent.as, e.2.1, e.2.2.1, e.2.2.2], hO5.mono (fun q hq => by have := (hO5.lt q hq).1; have := HLO4.out; omega), fun x hx => by
              rcases List.mem_append.1 hx with hx | hx
              · exact HE.out.rd x hx
              · rw [List.mem_singleton.1 hx]; exact HKR.out, HSI.out.trans hU5, H.out.low⟩
            have HS3 := Lib.hid (HS2.out.upd0 hU5)
            have hv5 : v5.oneCell' = true := HE3.out.vo
            have hs5 := size_ref v5 ((last1 : Int) + 1)
            have ho5 := one_ref ((last1 : Int) + 1) hv5
            clear hO5 hv5
            have HZ := Lib.hid (HZ.out.trans0 hU5)
            have HK5 := Lib.hid (hU5.heap k5 (by simp))
            have HK6 := Lib.hid (hU5.heap HK6.out (by simp))
            have HK8 := Lib.hid (hU5.heap HK8.out (by simp))
            clear hU5 c5 k5
            go_wp2_with (with_reducible refine arm_alloc (zero_ref _) ?_)
            intro bC w6 hbC kC hU6 hz6
            change w6.heap[bC]? = some (.cells (refC (.slice none 0 0) 0) 44 (0, 0)) at kC
            have HBC : Hid (w5.heap.size = bC) := hbC
            have HLC : Hid (lo ≤ bC) := by show lo ≤ bC; have := HE3.out.lows; have := HBC.out; omega
            have HN5C : Hid (b5 ≠ bC) := by show b5 ≠ bC; have := lt_of_heap HK5.out; have := HBC.out; omega
            have HN8C : Hid (b8 ≠ bC) := by show b8 ≠ bC; have := lt_of_heap HK8.out; have := HBC.out; omega
            have HK5 := Lib.hid (hU6.heap HK5.out (by simp))
            have HK6 := Lib.hid (hU6.heap HK6.out (by simp))
            have HK8 := Lib.hid (hU6.heap HK8.out (by simp))
            have HWC : Hid (w.heap.size ≤ bC) := by show w.heap.size ≤ bC; have := HZ.out.size; have := HBC.out; omega
            have HZ := Lib.hid (HZ.out.trans0 hU6)
            have HE4 := Lib.hid (HE3.out.upd0 hU6)
            have HS4 := Lib.hid (HS3.out.upd0 hU6)
            clear hbC hU6 hz6
            go_wp2_with (with_reducible refine arm_store (by with_unfolding_all exact rfl) (by with_unfolding_all exact rfl) kC hs5 (by with_unfolding_all exact rfl) ho5 ?_)
            intro w7 kC' hX7 hz7
            have HK5 := Lib.hid (hX7.heap HK5.out (fun hm => HN5C.out (List.mem_singleton.1 hm)))
            have k5 := HK5.out
            have HK6 := Lib.hid (hX7.heap HK6.out (fun hm => heap_ne HK6.out kC (by decide) (List.mem_singleton.1 hm)))
            have HK8 := Lib.hid (hX7.heap HK8.out (fun hm => HN8C.out (List.mem_singleton.1 hm)))
            have HZ := Lib.hid (HZ.out.trans' hX7 (fun q hm hl => by have := List.mem_singleton.1 hm; have := HWC.out; omega))
            have HE5 := Lib.hid (HE4.out.local hX7 kC (by decide) (by decide) (by decide) HLC.out)
            have HS5 := Lib.hid (HS4.out.local hX7 kC (by decide) (by decide))
            clear hX7 hz7 kC
            go_wp2_with (first
              | (with_reducible refine arm_load (by with_unfolding_all exact rfl) kC' Try.underlying44 (by with_unfolding_all exact rfl) hs5 ?_)
              | (with_reducible refine arm_store (by with_unfolding_all exact rfl) (by with_unfolding_all exact rfl) k5 hs5 (by with_unfolding_all exact rfl) ho5 ?_))
            intro w8 k5' hX8 hz8
            have HK6 := Lib.hid (hX8.heap HK6.out (fun hm => heap_ne HK6.out k5 (by decide) (List.mem_singleton.1 hm)))
            have HK8 := Lib.hid (hX8.heap HK8.out (fun hm => HN58.out (List.mem_singleton.1 hm).symm))
            have HZ := Lib.hid (HZ.out.trans' hX8 (fun q hm hl => by have := List.mem_singleton.1 hm; have := HB5.out; omega))
            have HE6 := Lib.hid (HE5.out.local hX8 k5 (by decide) (by decide) (by decide) (by have := HB5.out; have := HLOW.out; omega))
            have HS6 := Lib.hid (HS5.out.local hX8 k5 (by decide) (by decide))
            have HK5 := Lib.hid k5'
            clear hX8 hz8 k5 kC'
            clear k5'
            go_wp2_with (fail)
            go_roundw
            case rel => exact ⟨i + 1, v5, last1 + 1, _, _, D4, by go_num, HLT.out, HE6.out, HS6.out, by have := HK5.out; rw [show ((last1 + 1 : Nat) : Int) = (last1 : Int) + 1 by omega]; exact this, HK6.out, HK8.out, by have := HL1.out; omega, HZ.out⟩
            case measure => simp [intOf]; have := HLT.out; omega
          · have HR : Hid (es1.length = 4096) := hr
            clear hr
            go_wp2_with (fail)
            refine (double_full _ lo bb bm last1 es1 D1 HE.out.bag s.x HX.out y HF.out HR.out).mono ?_
            rintro e w4 ⟨rfl, hU4⟩
            have HZ := Lib.hid (HZ.out.trans0 hU4)
            have HE2 := Lib.hid (HE.out.upd0 hU4)
            have HS2 := Lib.hid (HS.out.upd0 hU4)
            have k5 := hU4.heap HK5.out (by simp)
            have HK6 := Lib.hid (hU4.heap HK6.out (by simp))
            have HK8 := Lib.hid (hU4.heap HK8.out (by simp))
            have c5 : w4.cell? ⟨b6, 5, none⟩ = some (.int .i64 s.x) := by rw [cell_of_row _ _ _ _ _ _ HK6.out]; rfl
            clear hU4
            go_wp2_with (with_reducible refine arm_load (by with_unfolding_all exact rfl) k5 Try.underlying44 (by with_unfolding_all exact rfl) hsz ?_)
            refine (rdouble_full _ v1 last1 ks1 (HE2.out.rdm) s.x (by rw [← HE.out.len]; exact HR.out) k HFK.out).mono ?_
            rintro e w5 ⟨rfl, hU5⟩
            have HE3 := Lib.hid (HE2.out.upd0 hU5)
            have HS3 := Lib.hid (HS2.out.upd0 hU5)
            have hs5 := hsz
            have ho5 := hone
            have HZ := Lib.hid (HZ.out.trans0 hU5)
            have HK5 := Lib.hid (hU5.heap k5 (by simp))
            have HK6 := Lib.hid (hU5.heap HK6.out (by simp))
            have HK8 := Lib.hid (hU5.heap HK8.out (by simp))
            clear hU5 c5 k5
            go_wp2_with (with_reducible refine arm_alloc (zero_ref _) ?_)
            intro bC w6 hbC kC hU6 hz6
            change w6.heap[bC]? = some (.cells (refC (.slice none 0 0) 0) 44 (0, 0)) at kC
            have HBC : Hid (w5.heap.size = bC) := hbC
            have HLC : Hid (lo ≤ bC) := by show lo ≤ bC; have := HE3.out.lows; have := HBC.out; omega
            have HN5C : Hid (b5 ≠ bC) := by show b5 ≠ bC; have := lt_of_heap HK5.out; have := HBC.out; omega
            have HN8C : Hid (b8 ≠ bC) := by show b8 ≠ bC; have := lt_of_heap HK8.out; have := HBC.out; omega
            have HK5 := Lib.hid (hU6.heap HK5.out (by simp))
            have HK6 := Lib.hid (hU6.heap HK6.out (by simp))
            have HK8 := Lib.hid (hU6.heap HK8.out (by simp))
            have HWC : Hid (w.heap.size ≤ bC) := by show w.heap.size ≤ bC; have := HZ.out.size; have := HBC.out; omega
            have HZ := Lib.hid (HZ.out.trans0 hU6)
            have HE4 := Lib.hid (HE3.out.upd0 hU6)
            have HS4 := Lib.hid (HS3.out.upd0 hU6)
            clear hbC hU6 hz6
            go_wp2_with (with_reducible refine arm_store (by with_unfolding_all exact rfl) (by with_unfolding_all exact rfl) kC hs5 (by with_unfolding_all exact rfl) ho5 ?_)
            intro w7 kC' hX7 hz7
            have HK5 := Lib.hid (hX7.heap HK5.out (fun hm => HN5C.out (List.mem_singleton.1 hm)))
            have k5 := HK5.out
            have HK6 := Lib.hid (hX7.heap HK6.out (fun hm => heap_ne HK6.out kC (by decide) (List.mem_singleton.1 hm)))
            have HK8 := Lib.hid (hX7.heap HK8.out (fun hm => HN8C.out (List.mem_singleton.1 hm)))
            have HZ := Lib.hid (HZ.out.trans' hX7 (fun q hm hl => by have := List.mem_singleton.1 hm; have := HWC.out; omega))
            have HE5 := Lib.hid (HE4.out.local hX7 kC (by decide) (by decide) (by decide) HLC.out)
            have HS5 := Lib.hid (HS4.out.local hX7 kC (by decide) (by decide))
            clear hX7 hz7 kC
            go_wp2_with (first
              | (with_reducible refine arm_load (by with_unfolding_all exact rfl) kC' Try.underlying44 (by with_unfolding_all exact rfl) hs5 ?_)
              | (with_reducible refine arm_store (by with_unfolding_all exact rfl) (by with_unfolding_all exact rfl) k5 hs5 (by with_unfolding_all exact rfl) ho5 ?_))
            intro w8 k5' hX8 hz8
            have HK6 := Lib.hid (hX8.heap HK6.out (fun hm => heap_ne HK6.out k5 (by decide) (List.mem_singleton.1 hm)))
            have HK8 := Lib.hid (hX8.heap HK8.out (fun hm => HN58.out (List.mem_singleton.1 hm).symm))
            have HZ := Lib.hid (HZ.out.trans' hX8 (fun q hm hl => by have := List.mem_singleton.1 hm; have := HB5.out; omega))
            have HE6 := Lib.hid (HE5.out.local hX8 k5 (by decide) (by decide) (by decide) (by have := HB5.out; have := HLOW.out; omega))
            have HS6 := Lib.hid (HS5.out.local hX8 k5 (by decide) (by decide))
            have HK5 := Lib.hid k5'
            clear hX8 hz8 k5 kC'
            have k8 := HK8.out
            go_wp2_with (first
              | (with_reducible refine arm_load (by with_unfolding_all exact rfl) k5' Try.underlying44 (by with_unfolding_all exact rfl) hsz ?_)
              | (with_reducible refine arm_store (by with_unfolding_all exact rfl) (by with_unfolding_all exact rfl) k8 hsz (by with_unfolding_all exact rfl) hone ?_))
            intro w9 k8' hX9 hz9
            have HZ := Lib.hid (HZ.out.trans' hX9 (fun q hm hl => by have := List.mem_singleton.1 hm; have := HB8.out; omega))
            have HE7 := Lib.hid (HE6.out.local hX9 k8 (by decide) (by decide) (by decide) (by have := HB8.out; have := HLOW.out; omega))
            have HS7 := Lib.hid (HS6.out.local hX9 k8 (by decide) (by decide))
            clear hX9 hz9 k8 k5'
            go_wp2_with (fail)
            refine bodyPost_ret (results_agg_tmp rfl _ _ b8 44 _ (0, 0) _ rfl k8' Try.underlying44 rfl hsz rfl) rfl ?_
            exact ⟨v1, last1, rfl, ⟨es1, ks1, D1, m0, q0, sb, HE7.out, HS7.out⟩, by have := HL1.out; have := HLT.out; have := HSN.out; omega, HZ.out⟩
    · have hid : decide ((i : Int) < sn) = false := by simp; omega
      have k8 := HK8.out
      clear hlt
      go_wp2_with (first
        | (with_reducible refine arm_load (by with_unfolding_all exact rfl) k5 Try.underlying44 (by with_unfolding_all exact rfl) hsz ?_)
        | (with_reducible refine arm_store (by with_unfolding_all exact rfl) (by with_unfolding_all exact rfl) k8 hsz (by with_unfolding_all exact rfl) hone ?_))
      intro w9 k8' hX9 hz9
      have HZ := Lib.hid (HZ.out.trans' hX9 (fun q hm hl => by have := List.mem_singleton.1 hm; have := HB8.out; omega))
      have HE7 := Lib.hid (HE.out.local hX9 k8 (by decide) (by decide) (by decide) (by have := HB8.out; have := HLOW.out; omega))
      have HS7 := Lib.hid (HS.out.local hX9 k8 (by decide) (by decide))
      clear hX9 hz9 k8 k5
      go_wp2_with (fail)
      refine bodyPost_ret (results_agg_tmp rfl _ _ b8 44 _ (0, 0) _ rfl k8' Try.underlying44 rfl hsz rfl) rfl ?_
      exact ⟨v1, last1, rfl, ⟨es1, ks1, D1, m0, q0, sb, HE7.out, HS7.out⟩, by have := HL1.out; have := HI.out; have := HSN.out; omega, HZ.out⟩
set_option maxRecDepth 100000 in
set_option maxHeartbeats 6400000 in
theorem step_list (w w0 : World) (lo bb bm bs : Nat) (v : Value) (last : Nat) (es ks : List Ent) (D : DataW Value) (m0 q0 : Ent) (sb : Bool) (h : ExAt w w0 lo bb bm v last es ks D) (hsh : ShelfAt w lo bs m0 q0 sb es) (hla : last ≤ 90000) (s : Stp) (hv : RdB w0 s.m.v s.m.b) (hb3 : s.m.b.length ≤ 3000) (hx : wfI s.x) (hn9 : s.n ≤ 9000) (hk : s.kind = 5) :
    Calls Try.prog 16 #[.pointer (some ⟨bb, 0, none⟩), .agg (refC v last), .agg s.cells.toArray, .pointer (some ⟨bs, 0, none⟩)] w (StepAns w w0 lo bb bm bs (bb :: bm :: bs :: m0.v.ownBlock.toList) last (1 + s.n.toNat)) := by
  have H := Lib.hid h
  have HSH := Lib.hid hsh
  have HLA := Lib.hid hla
  have HV := Lib.hid hv
  have HB3 := Lib.hid hb3
  have HX := Lib.hid hx
  have HN9 := Lib.hid hn9
  have hsz := size_ref v last
  have hone := one_ref last h.vo
  have HLOW : Hid (lo ≤ w.heap.size) := h.lows
  have hsS := size_stepL s
  have HKD := Lib.hid hk
  clear h hsh hla hv hb3 hx hn9 hk
  go_enter Try.func16, Try.ntmps16
  go_wp2_with (with_reducible refine arm_box (by with_unfolding_all exact rfl) ?_)
  intro b5 w1 hb5 k5 hU1 hz1
  change w1.heap[b5]? = some (.cells (refC v last) 44 (0, 0)) at k5
  have HB5 : Hid (w.heap.size ≤ b5) := by show w.heap.size ≤ b5; omega
  have HU1 := Lib.hid hU1
  clear hb5 hU1 hz1
  go_wp2_with (with_reducible refine arm_box (by with_unfolding_all exact rfl) ?_)
  intro b6 w2 hb6 k6 hU2 hz2
  change w2.heap[b6]? = some (.cells s.cells.toArray 52 (0, 0)) at k6
  have HB6 : Hid (w.heap.size ≤ b6) := by show w.heap.size ≤ b6; have := HU1.out.size; omega
  have HK5 := Lib.hid (hU2.heap k5 (by simp))
  have HU2 := Lib.hid (HU1.out.trans hU2)
  clear hb6 hU2 hz2 k5
  go_wp2_with (with_reducible refine arm_alloc (zero_ref _) ?_)
  intro b8 w3 hb8 k8 hU3 hz3
  change w3.heap[b8]? = some (.cells (refC (.slice none 0 0) 0) 44 (0, 0)) at k8
  have HB8 : Hid (w.heap.size ≤ b8) := by show w.heap.size ≤ b8; have := HU2.out.size; omega
  have HN58 : Hid (b5 ≠ b8) := by show b5 ≠ b8; have := lt_of_heap HK5.out; omega
  have HK5 := Lib.hid (hU3.heap HK5.out (by simp))
  have HK6 := Lib.hid (hU3.heap k6 (by simp))
  have HK8 := Lib.hid k8
  have HU3 := Lib.hid (HU2.out.trans hU3)
  have HZ : Hid (Upd (bb :: bm :: bs :: m0.v.ownBlock.toList) w w3) := HU3.out.of0
  have H3 := Lib.hid (H.out.upd0 HU3.out)
  have HSH3 := Lib.hid (HSH.out.upd0 HU3.out)
  have HLO3 : Hid (lo ≤ w3.heap.size ∧ w.heap.size ≤ w3.heap.size) := ⟨by have := HLOW.out; have := HU3.out.size; omega, HU3.out.size⟩
  clear hb8 hU3 hz3 k6 k8
  obtain ⟨kd, hkd⟩ : ∃ q, s.kind = q := ⟨_, rfl⟩
  have ck : w3.cell? ⟨b6, 0, none⟩ = some (.int .i64 kd) := by rw [cell_of_row _ _ _ _ _ _ HK6.out, ← hkd]; rfl
  rw [HKD.out] at hkd
  subst hkd
  have k5 := HK5.out
  go_wp2_with (fail)
  refine (list_ _ _ bb bm last es D H3.out.bag (by have := HLA.out; omega)).mono ?_
  rintro e w4 ⟨lv, ts, rfl, hts, hM4, hU4⟩
  obtain ⟨X, xc, eX⟩ := OwnA.isSlice hM4.row
  rw [List.length_map] at eX
  obtain ⟨n, hn⟩ : ∃ n, ts.length = n := ⟨_, rfl⟩
  rw [hn] at eX
  subst eX
  have HN := Lib.hid hn
  have HTS := Lib.hid hts
  have HM4 := Lib.hid hM4
  have HES : Hid (n = es.length) := by
    have := congrArg List.length hts
    simp only [List.length_map] at this
    show n = es.length
    rw [← hn]; exact this
  have HU4 := Lib.hid hU4
  have k5 := hU4.heap HK5.out (by simp)
  clear hn hts hM4 hU4 ck
  go_wp2_with (with_reducible refine arm_load (by with_unfolding_all exact rfl) k5 Try.underlying44 (by with_unfolding_all exact rfl) hsz ?_)
  refine (rlist_ _ v last ks (H3.out.upd0 HU4.out).rdm (by rw [← H.out.len]; exact H.out.bag.room)).mono ?_
  rintro e w5 ⟨v5, rfl, hO5, hU5⟩
  have HU5 := Lib.hid (HU4.out.trans hU5)
  have HM5 := Lib.hid (HM4.out.upd0 hU5)
  have HR5 : Hid (RdM w5 v5 ks) := ⟨hO5.rd, ((H3.out.upd0 HU5.out).rdm).bodies⟩
  clear hO5 hU5 k5
  go_wp2_with (fail)
  refine (sameL_ _ (.slice X n xc) v5 ts ks HM5.out.rd HR5.out (fun t ht => ?_) (fun t ht => ?_) ?_ ?_).mono ?_
  · have h1 : t.core ∈ (es.map Ent.core) := by rw [← HTS.out]; exact List.mem_map.2 ⟨t, ht, rfl⟩
    obtain ⟨y, hy, e⟩ := List.mem_map.1 h1
    have h2 : t.b = y.b := (congrArg (fun p => p.2.2.2) e).symm
    rw [h2]
    have := H.out.bag.short y hy
    omega
  · have h1 : t.core ∈ (es.map Ent.core) := by rw [H.out.alike]; exact List.mem_map.2 ⟨t, ht, rfl⟩
    obtain ⟨y, hy, e⟩ := List.mem_map.1 h1
    have h2 : t.b = y.b := (congrArg (fun p => p.2.2.2) e).symm
    rw [h2]
    have := H.out.bag.short y hy
    omega
  · rw [HN.out, HES.out]; have := H.out.bag.room; omega
  · rw [← H.out.len]; have := H.out.bag.room; omega
  · rintro e w6 ⟨rfl, hU6⟩
    have hd : decide (ts.map Ent.core = ks.map Ent.core) = true := by simp [HTS.out.trans H.out.alike]
    rw [hd]
    have HU6 := Lib.hid (HU5.out.trans hU6)
    have HM6 := Lib.hid (HM5.out.upd0 hU6)
    have hni : (n : Int) ≤ 4096 := by have := HES.out; have := H.out.bag.room; omega
    have HSHORT : Hid (∀ (j : Nat) (hj : j < ts.length), ts[j].b.length ≤ 1024) := fun j hj => by
      have h1 : ts[j].core ∈ (es.map Ent.core) := by rw [← HTS.out]; exact List.mem_map.2 ⟨_, List.getElem_mem hj, rfl⟩
      obtain ⟨y, hy, e⟩ := List.mem_map.1 h1
      have h2 : ts[j].b = y.b := (congrArg (fun p => p.2.2.2) e).symm
      rw [h2]
      exact H.out.bag.short y hy
    clear hU6 hd
    go_wp2_with (fail)
    go_loopw [28] (fun iv wr => ∃ i : Nat, iv = .int .i64 i ∧ i ≤ n ∧ (∀ (j : Nat) (hj : j < ts.length), i ≤ j → OwnB wr w3.heap.size ts[j].v ts[j].b) ∧ (0 < n → ∃ (g : Nat) (cur : Array Value), X = some ⟨g, 0, none⟩ ∧ w3.heap.size ≤ g ∧ wr.heap[g]? = some (.cells cur 32 (0, 0)) ∧ n * 4 ≤ cur.size ∧ ∀ (j : Nat) (hj : j < ts.length), i ≤ j → ∀ (c : Nat) (x : Value), ts[j].cells.toList[c]? = some x → cur[j * 4 + c]? = some x) ∧ Upd [] w3 wr) (fun iv _ => n - (intOf iv).toNat)
    case atStart =>
      refine ⟨0, rfl, Nat.zero_le _, fun j hj _ => HM6.out.bodies _ (List.getElem_mem hj), fun h0 => ?_, HU6.out⟩
      obtain ⟨g, cap, cur, eA, hB, hg, hc1, hc2, hcs, hct⟩ := OwnA.at HM6.out.row (by rw [List.length_map, HN.out]; exact h0)
      rw [List.length_map, HN.out] at eA hc1
      injection eA with e1 e2 e3
      refine ⟨g, cur, e1, hB, hg, by omega, fun j hj _ c x hx => ?_⟩
      have h1 := HM6.out.row
      rw [e1] at h1
      have h2 := OwnA.elem h1 j (by rw [List.length_map]; exact hj)
      simp only [List.getElem_map] at h2
      have h3 := h2 c x hx
      rwa [cell_of_row _ _ _ _ _ _ hg] at h3
    case round =>
      obtain ⟨i, rfl, hi, hBo, hRo, hU⟩ := hrel
      have HBO := Lib.hid hBo
      have HRO := Lib.hid hRo
      have HU := Lib.hid hU
      have HI : Hid (i ≤ n) := hi
      clear hBo hRo hU hi
      by_cases hlt : i < n
      · have hli : (i : Int) < (n : Int) := by omega
        have hit : i < ts.length := by rw [HN.out]; exact hlt
        obtain ⟨g, cur, eX, hBg, hg, hcz, hel⟩ := HRO.out (by omega)
        subst eX
        obtain ⟨y, hy⟩ : ∃ y, ts[i] = y := ⟨_, rfl⟩
        have HYO : Hid (OwnB wr w3.heap.size y.v y.b) := by have := HBO.out i hit (Nat.le_refl _); rwa [hy] at this
        have HYB : Hid (y.b.length ≤ 1024) := by have := HSHORT.out i hit; rwa [hy] at this
        have HAPART : Hid (∀ (j : Nat) (hj : j < ts.length), i < j → ∀ k, y.v.ownBlock = some k → ts[j].v.ownBlock ≠ some k) := fun j hj hij k hk hk2 => by
          have := List.pairwise_iff_getElem.1 HM6.out.apart i j hit hj hij k (by rw [hy]; exact hk)
          exact this hk2
        obtain ⟨kz, hkz⟩ : ∃ q, i * 4 = q := ⟨_, rfl⟩
        have hkz0 : 0 + i * 4 = kz := by omega
        have hra : wr.rangeAt g kz y.cells.toList := fun c x hx => by
          rw [cell_of_row _ _ _ _ _ _ hg]
          have := hel i hit (Nat.le_refl _) c x (by rw [hy]; exact hx)
          rwa [hkz] at this
        have hszz := size_msgL y
        have HEL := Lib.hid hel
        have HKZ := Lib.hid hkz
        have HBG : Hid (w3.heap.size ≤ g) := hBg
        have hkc : kz < cur.size := by omega
        clear hel hy hit hkz hBg
        go_wp2_with (first
          | (with_reducible refine arm_index_g (g := g) (i := i) (by kernel_rfl) (by with_unfolding_all exact rfl) (by with_unfolding_all exact rfl) rfl Try.underlying33 elem_msgs size_msg4 hlt hkz0 ?_)
          | (with_reducible refine arm_load_mid_g (by kernel_rfl) (by with_unfolding_all exact rfl) hra Try.underlying32 rfl hszz ?_))
        refine (wipe_ _ w3.heap.size y.id y.fr y.to y.v y.b HYO.out HU.out.size (by have := HYB.out; omega)).mono ?_
        rintro e w7 ⟨⟨z, rfl⟩, hU7⟩
        have HT7 : Hid (∀ {k : Nat} {C : Array Value} {T : TypeId} {fr' : Nat × Nat}, wr.heap[k]? = some (.cells C T fr') → T ≠ 5 → k ∉ y.v.ownBlock.toList) := fun {k C T fr'} h1 h2 hm => cells_ne HYO.out h1 h2 (by simpa using hm)
        have hg7 := hU7.heap hg (HT7.out hg (by decide))
        have HB7 : Hid (∀ (j : Nat) (hj : j < ts.length), i < j → OwnB w7 w3.heap.size ts[j].v ts[j].b) := fun j hj hij => (HBO.out j hj (by omega)).upd hU7 (fun k hk hm => HAPART.out j hj hij k (by simpa using hm) hk)
        have HU7 : Hid (Upd [] w3 w7) := HU.out.trans' hU7 (fun k hm hl => by have := (HYO.out.lt k (by simpa using hm)).1; omega)
        clear hU7 hg hra hszz
        go_wp2_with (first
          | (with_reducible refine arm_index_g (g := g) (i := i) (by kernel_rfl) (by with_unfolding_all exact rfl) (by with_unfolding_all exact rfl) rfl Try.underlying33 elem_msgs size_msg4 hlt hkz0 ?_)
          | (with_reducible refine arm_store_at (v := .int .i64 (-1)) (by with_unfolding_all exact rfl) (by with_unfolding_all exact rfl) hg7 hkc (by with_unfolding_all exact rfl) size_int1 (by with_unfolding_all exact rfl) ?_))
        intro w8 hg8 hX8 hz8
        have HX8 := Lib.hid hX8
        have HG7 := Lib.hid hg7
        have HG8 := Lib.hid hg8
        have HCZ : Hid (n * 4 ≤ cur.size) := hcz
        clear hg8 hX8 hz8 hg7 hkc hcz
        go_wp2_with (fail)
        go_roundw
        case rel =>
          refine ⟨i + 1, by go_num, by omega, fun j hj hij => (HB7.out j hj (by omega)).upd HX8.out (fun k hk hm => cells_ne (HB7.out j hj (by omega)) HG7.out (by decide) (by rw [hk, List.mem_singleton.1 hm])), fun _ => ⟨g, _, rfl, HBG.out, HG8.out, by rw [Array.size_setIfInBounds]; exact HCZ.out, fun j hj hij c x hx => ?_⟩, HU7.out.trans' HX8.out (fun k hm hl => by have := List.mem_singleton.1 hm; have := HBG.out; omega)⟩
          rw [Array.getElem?_setIfInBounds_ne (by have := HKZ.out; omega)]
          exact HEL.out j hj (by omega) c x hx
        case measure => simp [intOf]; omega
      · have hli : ¬ (i : Int) < (n : Int) := by omega
        have k5 := HU.out.heap HK5.out (by simp)
        have k8 := HU.out.heap HK8.out (by simp)
        have Hr := Lib.hid (H3.out.upd0 HU.out)
        have HSHr := Lib.hid (HSH3.out.upd0 HU.out)
        clear hlt
        go_wp2_with (first
          | (with_reducible refine arm_load (by with_unfolding_all exact rfl) k5 Try.underlying44 (by with_unfolding_all exact rfl) hsz ?_)
          | (with_reducible refine arm_store (by with_unfolding_all exact rfl) (by with_unfolding_all exact rfl) k8 hsz (by with_unfolding_all exact rfl) hone ?_))
        intro w9 k8' hX9 hz9
        have HZ := Lib.hid ((HZ.out.trans0 HU.out).trans' hX9 (fun q hm hl => by have := List.mem_singleton.1 hm; have := HB8.out; omega))
        have H9 := Lib.hid (Hr.out.local hX9 k8 (by decide) (by decide) (by decide) (by have := HB8.out; have := HLOW.out; omega))
        have HSH9 := Lib.hid (HSHr.out.local hX9 k8 (by decide) (by decide))
        clear hX9 hz9 k8 k5
        go_wp2_with (fail)
        refine bodyPost_ret (results_agg_tmp rfl _ _ b8 44 _ (0, 0) _ rfl k8' Try.underlying44 rfl hsz rfl) rfl ?_
        exact ⟨v, last, rfl, ⟨es, ks, D, m0, q0, sb, H9.out, HSH9.out⟩, by omega, HZ.out⟩
end Go.Proofs.Ytjeddokenpkpnaa
