/-
  The bag and the document's beside one another; put of package 24's law.
-/
import Derived.Test.YtjeddokenpkpnaaExA
namespace Go.Proofs.Ytjeddokenpkpnaa
open Go Go.RowKit Go.Proofs Go.Maps
structure ExAt (w w0 : World) (lo bb bm : Nat) (v : Value) (last : Nat) (es ks : List Ent) (D : DataW Value) : Prop where
  bag : BagAt w lo bb bm last es D
  alike : es.map Ent.core = ks.map Ent.core
  row : OwnA w lo 32 4 v (ks.map fun t => t.cells.toList)
  rd : ∀ k ∈ ks, RdB w0 k.v k.b
  since : Upd [] w0 w
  low : w0.heap.size ≤ lo
theorem ExAt.len {w w0 : World} {lo bb bm : Nat} {v : Value} {last : Nat} {es ks : List Ent} {D : DataW Value} (h : ExAt w w0 lo bb bm v last es ks D) : es.length = ks.length := by
  have := congrArg List.length h.alike
  simpa using this
theorem ExAt.rdm {w w0 : World} {lo bb bm : Nat} {v : Value} {last : Nat} {es ks : List Ent} {D : DataW Value} (h : ExAt w w0 lo bb bm v last es ks D) : RdM w v ks := ⟨h.row.rd, fun k hk => (h.rd k hk).upd0 h.since⟩
theorem ExAt.upd0 {w w' w0 : World} {lo bb bm : Nat} {v : Value} {last : Nat} {es ks : List Ent} {D : DataW Value} (h : ExAt w w0 lo bb bm v last es ks D) (u : Upd [] w w') : ExAt w' w0 lo bb bm v last es ks D :=
  ⟨h.bag.upd0 u, h.alike, h.row.upd0 u, h.rd, h.since.trans u, h.low⟩
/-- blocks of bytes that are no body of the bag's -/
theorem ExAt.bytes {w w' w0 : World} {lo bb bm : Nat} {v : Value} {last : Nat} {es ks : List Ent} {D : DataW Value} {S : List Nat} (h : ExAt w w0 lo bb bm v last es ks D) (u : Upd S w w')
    (hS : ∀ k ∈ S, lo ≤ k ∧ (∃ C fr, w.heap[k]? = some (.cells C 5 fr)) ∧ ∀ e ∈ es, e.v.ownBlock ≠ some k) : ExAt w' w0 lo bb bm v last es ks D := by
  refine ⟨h.bag.upd u (fun hm => ?_) (fun hm => ?_) (fun e he k hk hm => (hS k hm).2.2 e he hk), h.alike, h.row.upd u (fun k hk hm => ?_), h.rd, h.since.trans' u (fun k hm hl => by have := (hS k hm).1; have := h.low; omega), h.low⟩
  · obtain ⟨C, fr, h1⟩ := (hS bb hm).2.1; exact heap_ne h1 h.bag.cells (by decide) rfl
  · obtain ⟨C, fr, h1⟩ := (hS bm hm).2.1; exact map_ne h.bag.map h1 rfl
  · obtain ⟨C, fr, h1⟩ := (hS k hm).2.1; exact OwnA.ne h.row h1 (by decide) hk
theorem size_bytesV : (Try.prog.info? 27).map (·.size) = some 1 := size_bytes1
/-- what a call that lays a message into both answers -/
def BothAns (w w0 : World) (lo bb bm last : Nat) (es : List Ent) (e : Ending) (w' : World) : Prop :=
  ∃ v' last' es' ks' D', e = .returned (.tuple #[.agg (refC v' (last' : Nat)), .bool true]) ∧ ExAt w' w0 lo bb bm v' last' es' ks' D' ∧ last' ≤ last + 1 ∧ (∀ x ∈ es', x ∈ es ∨ ∀ k, x.v.ownBlock = some k → w.heap.size ≤ k) ∧ Upd [bb, bm] w w'
set_option maxRecDepth 100000 in
set_option maxHeartbeats 6400000 in
theorem put24_long (w w0 : World) (lo bb bm : Nat) (v : Value) (last : Nat) (es ks : List Ent) (D : DataW Value) (h : ExAt w w0 lo bb bm v last es ks D) (hla : last ≤ 100000) (m : Ent) (hv : RdB w0 m.v m.b) (hb3 : m.b.length ≤ 3000) (hb : 1024 < m.b.length) :
    Calls Try.prog 33 #[.pointer (some ⟨bb, 0, none⟩), .agg (refC v last), .agg m.cells] w (BothAns w w0 lo bb bm last es) := by
  obtain ⟨id, fr, to, mv, mb⟩ := m
  change RdB w0 mv mb at hv
  change mb.length ≤ 3000 at hb3
  unfold Ent.cells
  obtain ⟨MA, mc, eM, _⟩ := hv.isSlice
  subst eM
  obtain ⟨n, hn0⟩ : ∃ n, mb.length = n := ⟨_, rfl⟩
  have hb' := hb
  simp only at hb'
  rw [hn0] at hv hb3 hb' ⊢
  have H := Lib.hid h
  have HLA := Lib.hid hla
  have HV := Lib.hid hv
  have HN0 := Lib.hid hn0
  have HB3 : Hid (n ≤ 3000) := hb3
  have HBB := Lib.hid hb'
  have hni : (n : Int) ≤ 3000 := by omega
  obtain ⟨VA, vc, eV⟩ := OwnA.isSlice h.row
  have hvo : v.oneCell' = true := by rw [eV]; rfl
  have hsz := size_ref v last
  have hone := one_ref last hvo
  have hsm := size_msg id fr to (.slice MA n mc)
  have hom := one_msg id fr to (v := .slice MA n mc) rfl
  clear h hla hv hb3 hb hb' hn0 eV hvo
  go_enter Try.func33, Try.ntmps33
  go_wp2_with (with_reducible refine arm_box (by with_unfolding_all exact rfl) ?_)
  intro b4 w1 hb4 k4 hU1 hz1
  change w1.heap[b4]? = some (.cells (refC v last) 44 (0, 0)) at k4
  have HU1 := Lib.hid hU1
  have HL4 := Lib.hid (lt_of_heap k4)
  clear hb4 hU1 hz1
  go_wp2_with (with_reducible refine arm_box (by with_unfolding_all exact rfl) ?_)
  intro b5 w2 hb5 k5 hU2 hz2
  change w2.heap[b5]? = some (.cells (msgC id fr to (.slice MA n mc)) 32 (0, 0)) at k5
  have HK4 := Lib.hid (hU2.heap k4 (by simp))
  have HU2 := Lib.hid (HU1.out.trans hU2)
  clear hb5 hU2 hz2 k4
  go_wp2_with (with_reducible refine arm_alloc (zero_ref _) ?_)
  intro b6 w3 hb6 k6 hU3 hz3
  change w3.heap[b6]? = some (.cells (refC (.slice none 0 0) 0) 44 (0, 0)) at k6
  have HB6 : Hid (w2.heap.size = b6) := hb6
  have HN46 : Hid (b4 ≠ b6) := by show b4 ≠ b6; have := lt_of_heap HK4.out; have := HB6.out; omega
  have HW6 : Hid (w.heap.size ≤ b6) := by show w.heap.size ≤ b6; have := HB6.out; have := HU2.out.size; omega
  have HK4 := Lib.hid (hU3.heap HK4.out (by simp))
  have HK5 := Lib.hid (hU3.heap k5 (by simp))
  have HK6 := Lib.hid k6
  have HU3 := Lib.hid (HU2.out.trans hU3)
  have c5 : w3.cell? ⟨b5, 3, none⟩ = some (.slice MA n mc) := by rw [cell_of_row _ _ _ _ _ _ HK5.out]; rfl
  clear hb6 hU3 hz3 k5 k6
  go_wp2_with (fail)
  refine (roomy_ _ _ mb (by rw [← HN0.out] at HV ⊢; exact HV.out.upd0 (H.out.since.trans HU3.out)) (by rw [HN0.out]; exact HB3.out)).mono ?_
  rintro e w4 ⟨vr, rfl, hO4, hU4⟩
  have hlen4 : (room24 mb).length = n + 64 := by rw [room24_length, HN0.out]
  obtain ⟨g, rc, er, hgl, hgs, hg1, hg2⟩ := hO4.at (by rw [hlen4]; omega)
  rw [hlen4] at er hg1
  subst er
  have HO4 := Lib.hid hO4
  have HGW : Hid (w3.heap.size ≤ g) := (hO4.lt g rfl).1
  have HK4 := Lib.hid (hU4.heap HK4.out (by simp))
  have HK5 := Lib.hid (hU4.heap HK5.out (by simp))
  have HK6 := Lib.hid (hU4.heap HK6.out (by simp))
  have HU4 := Lib.hid (HU3.out.trans hU4)
  have k5 := HK5.out
  have HRC : Hid (n + 64 ≤ rc ∧ rc ≤ maxLen) := ⟨hg1, hg2⟩
  clear hO4 hU4 hlen4 hgl hgs hg1 hg2 c5
  go_wp2_with (first
    | (with_reducible refine arm_load (by with_unfolding_all exact rfl) k5 Try.underlying32 (by with_unfolding_all exact rfl) hsm ?_)
    | (with_reducible refine arm_alloc (zero_msg _) ?_))
  intro b9 w5 hb9 k9 hU5 hz5
  change w5.heap[b9]? = some (.cells (msgC 0 0 0 (.slice none 0 0)) 32 (0, 0)) at k9
  have HB9 : Hid (w4.heap.size = b9) := hb9
  have HN59 : Hid (b5 ≠ b9) := by show b5 ≠ b9; have := lt_of_heap k5; have := HB9.out; omega
  have HK4 := Lib.hid (hU5.heap HK4.out (by simp))
  have HK5 := Lib.hid (hU5.heap HK5.out (by simp))
  have HK6 := Lib.hid (hU5.heap HK6.out (by simp))
  have HO5 := Lib.hid (HO4.out.upd0 hU5)
  have HU5 := Lib.hid (HU4.out.trans hU5)
  clear hb9 hU5 hz5 k5
  go_wp2_with (with_reducible refine arm_store (by with_unfolding_all exact rfl) (by with_unfolding_all exact rfl) k9 hsm (by with_unfolding_all exact rfl) hom ?_)
  intro w6 k9' hX6 hz6
  have HK4 := Lib.hid (hX6.heap HK4.out (fun hm => heap_ne HK4.out k9 (by decide) (List.mem_singleton.1 hm)))
  have HK5 := Lib.hid (hX6.heap HK5.out (fun hm => HN59.out (List.mem_singleton.1 hm)))
  have HK6 := Lib.hid (hX6.heap HK6.out (fun hm => heap_ne HK6.out k9 (by decide) (List.mem_singleton.1 hm)))
  have HO6 := Lib.hid (HO5.out.upd hX6 (fun k hk hm => cells_ne HO5.out k9 (by decide) (by rw [hk, List.mem_singleton.1 hm])))
  have HU6 : Hid (Upd [] w w6) := HU5.out.trans' hX6 (fun k hm hl => by have := List.mem_singleton.1 hm; have := HB9.out; have := HU4.out.size; omega)
  have c5 : w6.cell? ⟨b5, 3, none⟩ = some (.slice MA n mc) := by rw [cell_of_row _ _ _ _ _ _ HK5.out]; rfl
  have HB9' : Hid (w.heap.size ≤ b9) := by show w.heap.size ≤ b9; have := HB9.out; have := HU4.out.size; omega
  have HLP := Lib.hid (room24_take mb n HN0.out)
  have hR6 := HO6.out.rd
  clear k9 hX6 hz6
  go_upto_region 3 with (fail)
  go_simp
  go_wp2_with (refine cut_bytes rfl _ _ _ rfl (some ⟨g, 0, none⟩) (n + 64) rc (by with_unfolding_all exact rfl) (room24 mb) hR6 0 n (.inl ⟨rfl, rfl⟩) (.inr (by with_unfolding_all exact rfl)) (Nat.zero_le _) (by omega) ?_)
  intro BX hRX hBX
  have hRX' : RdB w6 (.slice BX n rc) mb := by rw [HLP.out] at hRX; simpa using hRX
  have HRX := Lib.hid hRX'
  try simp only [Nat.sub_zero]
  clear hRX hBX hRX' c5 hR6
  go_wp2_with (with_reducible refine arm_store_at (by with_unfolding_all exact rfl) (by with_unfolding_all exact rfl) k9' (by simp [msgC]) (by with_unfolding_all exact rfl) size_bytes1 (by with_unfolding_all exact rfl) ?_)
  intro w7 k7 hX7 hz7
  change w7.heap[b9]? = some (.cells (msgC id fr to (.slice BX n rc)) 32 (0, 0)) at k7
  have HN49 : Hid (b4 ≠ b9) := fun e => heap_ne HK4.out k9' (by decide) e
  have HN69 : Hid (b6 ≠ b9) := fun e => heap_ne HK6.out k9' (by decide) e
  have HGT : Hid (∀ k, (Value.slice (some ⟨g, 0, none⟩) (n + 64) rc).ownBlock = some k → k ∉ [b9]) := fun k hk hm => cells_ne HO6.out k9' (by decide) (by rw [hk, List.mem_singleton.1 hm])
  have HK4 := Lib.hid (hX7.heap HK4.out (fun hm => HN49.out (List.mem_singleton.1 hm)))
  have HK5 := Lib.hid (hX7.heap HK5.out (fun hm => HN59.out (List.mem_singleton.1 hm)))
  have HK6 := Lib.hid (hX7.heap HK6.out (fun hm => HN69.out (List.mem_singleton.1 hm)))
  have HO7 := Lib.hid (HO6.out.upd hX7 HGT.out)
  have HR7 : Hid (RdB w7 (.slice BX n rc) mb) := HRX.out.upd' hX7 (fun h0 k hk hm => by
    obtain ⟨g', p', c', e, _, _, hby⟩ := HRX.out.at h0
    injection e with e _ _
    subst e
    simp only [Value.ownBlock, Option.some.injEq] at hk
    subst hk
    have h1 := hby 0 h0
    rw [List.mem_singleton.1 hm, cell_of_row _ _ _ _ _ _ k9'] at h1
    have h2 : ∀ (q : Nat), (msgC id fr to (.slice MA n mc))[q]? ≠ some (U8 mb[0]) := fun q => by
      match q with
      | 0 => simp [msgC, U8]
      | 1 => simp [msgC, U8]
      | 2 => simp [msgC, U8]
      | 3 => simp [msgC, U8]
      | _ + 4 => simp [msgC]
    exact h2 _ h1)
  have HU7 : Hid (Upd [] w w7) := HU6.out.trans' hX7 (fun k hm hl => by have := List.mem_singleton.1 hm; have := HB9'.out; omega)
  have HX := Lib.hid (H.out.upd0 HU7.out)
  clear hX7 hz7 k9'
  have hs9 := size_msg id fr to (.slice BX n rc)
  go_wp2_with (with_reducible refine arm_load (by with_unfolding_all exact rfl) k7 Try.underlying32 (by with_unfolding_all exact rfl) hs9 ?_)

  refine (put_long _ _ id fr to (.slice BX n rc) mb HR7.out (by rw [HN0.out]; exact HBB.out)).mono ?_
  rintro e w8 ⟨rfl, hU8⟩
  have HBG := Lib.hid (HX.out.bag.upd0 hU8)
  have HU78 : Hid (Upd [bb, bm] w7 w8) := hU8.of0
  clear hU8 k7 hs9
  have HFR : Hid (∀ {k : Nat} {C : Array Value} {T : TypeId} {fr' : Nat × Nat}, w7.heap[k]? = some (.cells C T fr') → T ≠ 71 → w8.heap[k]? = some (.cells C T fr')) := fun {k C T fr'} h1 h2 => HU78.out.heap h1 (fun hm => by
    simp only [List.mem_cons, List.not_mem_nil, or_false] at hm
    rcases hm with rfl | rfl
    · exact heap_ne h1 HX.out.bag.cells h2 rfl
    · exact map_ne HX.out.bag.map h1 rfl)
  have HNO : Hid (∀ {B sz n : Nat} {e : TypeId} {u : Value} {xs : List Value}, w7.ownsRow B e sz u n xs → e ≠ 71 → ∀ k, u.ownBlock = some k → k ∉ [bb, bm]) := fun {B sz n e u xs} h1 h2 k hk hm => by
    obtain ⟨C, fr', h3⟩ := own_type h1 hk
    simp only [List.mem_cons, List.not_mem_nil, or_false] at hm
    rcases hm with rfl | rfl
    · exact heap_ne h3 HX.out.bag.cells h2 rfl
    · exact map_ne HX.out.bag.map h3 rfl
  have k4 := HFR.out HK4.out (by decide)
  have k5 := HFR.out HK5.out (by decide)
  have HK6 := Lib.hid (HFR.out HK6.out (by decide))
  have HO8 : Hid (OwnB w8 w3.heap.size (.slice (some ⟨g, 0, none⟩) (n + 64) rc) (room24 mb)) := HO7.out.upd HU78.out (HNO.out HO7.out (by decide))
  have HRW : Hid (OwnA w8 lo 32 4 v (ks.map fun t => t.cells.toList)) := HX.out.row.upd HU78.out (HNO.out HX.out.row.2 (by decide))
  have HSI : Hid (Upd [] w0 w8) := HX.out.since.trans' HU78.out (fun k hm hl => by simp at hm; have := H.out.low; have := H.out.bag.low; omega)
  have HU8 : Hid (Upd [bb, bm] w w8) := (HU7.out.of0).trans HU78.out
  have HWZ : Hid (w.heap.size ≤ w8.heap.size) := HU8.out.size
  have HLOW : Hid (lo ≤ w8.heap.size) := by show lo ≤ w8.heap.size; have := H.out.bag.low; have := lt_of_heap HBG.out.cells; omega
  go_wp2_with (first
    | (with_reducible refine arm_load (by with_unfolding_all exact rfl) k4 Try.underlying44 (by with_unfolding_all exact rfl) hsz ?_)
    | (with_reducible refine arm_load (by with_unfolding_all exact rfl) k5 Try.underlying32 (by with_unfolding_all exact rfl) hsm ?_))
  refine (rput_long _ v last ks ⟨HRW.out.rd, fun k hk => (H.out.rd k hk).upd0 HSI.out⟩ ⟨id, fr, to, .slice MA n mc, mb⟩ (HV.out.upd0 HSI.out) (by rw [HN0.out]; exact HBB.out)).mono ?_
  rintro e w9 ⟨rfl, hU9⟩
  have HRW9 := Lib.hid (HRW.out.upd0 hU9)
  have HK5 := Lib.hid (hU9.heap k5 (by simp))
  have HK6 := Lib.hid (hU9.heap HK6.out (by simp))
  have HBG := Lib.hid (HBG.out.upd0 hU9)
  have HO9 := Lib.hid (HO8.out.upd0 hU9)
  have HSI := Lib.hid (HSI.out.trans hU9)
  have HU9 := Lib.hid (HU8.out.trans0 hU9)
  have HL9 : Hid (w.heap.size ≤ w9.heap.size) := HU9.out.size
  clear hU9 k4 k5
  go_wp2_with (with_reducible refine arm_alloc (zero_ref _) ?_)
  intro bC wa hbC kC hUa hza
  change wa.heap[bC]? = some (.cells (refC (.slice none 0 0) 0) 44 (0, 0)) at kC
  have HBC : Hid (w9.heap.size = bC) := hbC
  have HK5 := Lib.hid (hUa.heap HK5.out (by simp))
  have HN6C : Hid (b6 ≠ bC) := by show b6 ≠ bC; have := lt_of_heap HK6.out; have := HBC.out; omega
  have HK6 := Lib.hid (hUa.heap HK6.out (by simp))
  have HBG := Lib.hid (HBG.out.upd0 hUa)
  have HO9 := Lib.hid (HO9.out.upd0 hUa)
  have HRW9 := Lib.hid (HRW9.out.upd0 hUa)
  have HSI := Lib.hid (HSI.out.trans hUa)
  have HU9 := Lib.hid (HU9.out.trans0 hUa)
  clear hbC hUa hza
  go_wp2_with (with_reducible refine arm_store (by with_unfolding_all exact rfl) (by with_unfolding_all exact rfl) kC hsz (by with_unfolding_all exact rfl) hone ?_)
  intro wb kC' hXb hzb
  have HTC : Hid (∀ {k : Nat} {C : Array Value} {T : TypeId} {fr' : Nat × Nat}, wa.heap[k]? = some (.cells C T fr') → T ≠ 44 → k ≠ bC) := fun {k C T fr'} h1 h2 => heap_ne h1 kC h2
  have HNC : Hid (∀ {B sz n : Nat} {e : TypeId} {u : Value} {xs : List Value}, wa.ownsRow B e sz u n xs → e ≠ 44 → ∀ k, u.ownBlock = some k → k ∉ [bC]) := fun {B sz n e u xs} h1 h2 k hk hm => by
    obtain ⟨C, fr', h3⟩ := own_type h1 hk
    exact HTC.out h3 h2 (List.mem_singleton.1 hm)
  have c5 : wb.cell? ⟨b5, 3, none⟩ = some (.slice MA n mc) := by rw [cell_of_row _ _ _ _ _ _ (hXb.heap HK5.out (fun hm => HTC.out HK5.out (by decide) (List.mem_singleton.1 hm)))]; rfl
  have HK6 := Lib.hid (hXb.heap HK6.out (fun hm => HN6C.out (List.mem_singleton.1 hm)))
  have HBG := Lib.hid (HBG.out.upd hXb (fun hm => HTC.out HBG.out.cells (by decide) (List.mem_singleton.1 hm)) (fun hm => map_ne HBG.out.map kC (List.mem_singleton.1 hm)) (fun e he k hk => HNC.out (HBG.out.rows e he) (by decide) k hk))
  have HO9 := Lib.hid (HO9.out.upd hXb (HNC.out HO9.out (by decide)))
  have HRW9 := Lib.hid (HRW9.out.upd hXb (HNC.out HRW9.out.2 (by decide)))
  have HCW : Hid (w.heap.size ≤ bC) := by show w.heap.size ≤ bC; have := HBC.out; have := HL9.out; omega
  have HCW0 : Hid (w0.heap.size ≤ bC) := Nat.le_trans H.out.since.size HCW.out
  have HSI : Hid (Upd [] w0 wb) := HSI.out.trans' hXb (fun k hm hl => by have := List.mem_singleton.1 hm; have := HCW0.out; omega)
  have HU9 : Hid (Upd [bb, bm] w wb) := HU9.out.trans' hXb (fun k hm hl => by have := List.mem_singleton.1 hm; have := HCW.out; omega)
  have HKC := Lib.hid kC'
  clear hXb hzb kC kC'
  go_wp2_with (fail)
  refine (roomy_ _ _ mb (by rw [← HN0.out] at HV ⊢; exact HV.out.upd0 HSI.out) (by rw [HN0.out]; exact HB3.out)).mono ?_
  rintro e wc ⟨vq, rfl, hOc, hUc⟩
  have HOc := Lib.hid hOc
  have HK6 := Lib.hid (hUc.heap HK6.out (by simp))
  have HKC := Lib.hid (hUc.heap HKC.out (by simp))
  have HBG := Lib.hid (HBG.out.upd0 hUc)
  have HO9 := Lib.hid (HO9.out.upd0 hUc)
  have HRW9 := Lib.hid (HRW9.out.upd0 hUc)
  have HSI := Lib.hid (HSI.out.trans hUc)
  have HU9 := Lib.hid (HU9.out.trans0 hUc)
  clear hOc hUc c5
  go_wp2_with (fail)
  refine (same24 _ _ _ (room24 mb) (room24 mb) HO9.out.rd HOc.out.rd (by rw [room24_length, HN0.out]; have := HB3.out; omega) (by rw [room24_length, HN0.out]; have := HB3.out; omega)).mono ?_
  rintro e wd ⟨rfl, hUd⟩
  have heq : (room24 mb == room24 mb) = true := by simp
  rw [heq]
  have HK6 := Lib.hid (hUd.heap HK6.out (by simp))
  have HKC := Lib.hid (hUd.heap HKC.out (by simp))
  have HBG := Lib.hid (HBG.out.upd0 hUd)
  have HO9 := Lib.hid (HO9.out.upd0 hUd)
  have HRW9 := Lib.hid (HRW9.out.upd0 hUd)
  have HSI := Lib.hid (HSI.out.trans hUd)
  have HU9 := Lib.hid (HU9.out.trans0 hUd)
  have HGD : Hid (∃ C fr', wd.heap[g]? = some (.cells C 5 fr')) := own_type HO9.out rfl
  have HGB : Hid (∀ e ∈ es, e.v.ownBlock ≠ some g) := fun e he hk => by
    have h1 := ((H.out.bag.rows e he).lt g hk).2
    have := HGW.out
    have := HU3.out.size
    omega
  have hn64 : ((n : Int) + 64) ≤ 3064 := by omega
  clear hUd heq
  go_wp2_with (fail)
  go_loopw [16] (fun iv wr => ∃ (i : Nat) (l : List (BitVec 8)), iv = .int .i64 i ∧ i ≤ n + 64 ∧ l.length = n + 64 ∧ OwnB wr w3.heap.size (.slice (some ⟨g, 0, none⟩) (n + 64) rc) l ∧ Upd [g] wd wr) (fun iv _ => n + 64 - (intOf iv).toNat)
  case atStart => exact ⟨0, room24 mb, rfl, Nat.zero_le _, by rw [room24_length, HN0.out], HO9.out, Upd.refl _ _⟩
  case round =>
    obtain ⟨i, l, rfl, hi, hl, hO, hU⟩ := hrel
    have HO := Lib.hid hO
    have HU := Lib.hid hU
    have HL := Lib.hid hl
    clear hO hU hl
    by_cases hlt : i < n + 64
    · have hli : (i : Int) < (n : Int) + 64 := by omega
      have hil : i < l.length := by rw [HL.out]; exact hlt
      have hc := OwnB.cell HO.out i hil
      have hf := OwnB.frozen HO.out i hil
      have HS := Lib.hid (OwnB.set HO.out i hil 7)
      have HUS : Hid (Upd [g] wd (wr.setCell ⟨g, i, none⟩ (U8 7))) := HU.out.setCell _ _ (fun _ => by simp)
      obtain ⟨y, hy⟩ : ∃ y, l[i] = y := ⟨_, rfl⟩
      rw [hy] at hc
      clear hy hil
      go_wp2_with (fail)
      go_roundw
      case rel => exact ⟨i + 1, l.set i 7, by go_num, by omega, by rw [List.length_set]; exact HL.out, HS.out, HUS.out⟩
      case measure => simp [intOf]; omega
    · have hli : ¬ (i : Int) < (n : Int) + 64 := by omega
      have h6g : b6 ≠ g := by obtain ⟨C, fr', h1⟩ := HGD.out; exact heap_ne HK6.out h1 (by decide)
      have hCg : bC ≠ g := by obtain ⟨C, fr', h1⟩ := HGD.out; exact heap_ne HKC.out h1 (by decide)
      have k6 := HU.out.heap HK6.out (fun hm => h6g (List.mem_singleton.1 hm))
      have kC := HU.out.heap HKC.out (fun hm => hCg (List.mem_singleton.1 hm))
      have HXX : Hid (ExAt wd w0 lo bb bm v last es ks D) := ⟨HBG.out, by exact H.out.alike, HRW9.out, by exact H.out.rd, HSI.out, H.out.low⟩
      have HLG : Hid (lo ≤ g ∨ True) := .inr trivial
      have HXY : Hid (ExAt wr w0 lo bb bm v last es ks D) := HXX.out.bytes HU.out (fun k hm => by
        rw [List.mem_singleton.1 hm]
        exact ⟨by have := HGW.out; have := HU3.out.size; have := H.out.bag.low; have := lt_of_heap H.out.bag.cells; omega, HGD.out, HGB.out⟩)
      have HUZ : Hid (Upd [bb, bm] w wr) := HU9.out.trans' HU.out (fun k hm hl => by have := List.mem_singleton.1 hm; have := HGW.out; have := HU3.out.size; omega)
      clear hlt h6g hCg
      go_wp2_with (first
        | (with_reducible refine arm_load (by with_unfolding_all exact rfl) kC Try.underlying44 (by with_unfolding_all exact rfl) hsz ?_)
        | (with_reducible refine arm_store (by with_unfolding_all exact rfl) (by with_unfolding_all exact rfl) k6 hsz (by with_unfolding_all exact rfl) hone ?_))
      intro wz kz hXz hzz
      have HTZ : Hid (∀ {k : Nat} {C : Array Value} {T : TypeId} {fr' : Nat × Nat}, wr.heap[k]? = some (.cells C T fr') → T ≠ 44 → k ≠ b6) := fun {k C T fr'} h1 h2 => heap_ne h1 k6 h2
      have HXZ : Hid (ExAt wz w0 lo bb bm v last es ks D) := ⟨HXY.out.bag.upd hXz (fun hm => HTZ.out HXY.out.bag.cells (by decide) (List.mem_singleton.1 hm)) (fun hm => map_ne HXY.out.bag.map k6 (List.mem_singleton.1 hm)) (fun e he k hk hm => by obtain ⟨C, fr', h3⟩ := own_type (HXY.out.bag.rows e he) hk; exact HTZ.out h3 (by decide) (List.mem_singleton.1 hm)), HXY.out.alike, HXY.out.row.upd hXz (fun k hk hm => by obtain ⟨C, fr', h3⟩ := own_type HXY.out.row.2 hk; exact HTZ.out h3 (by decide) (List.mem_singleton.1 hm)), HXY.out.rd, HXY.out.since.trans' hXz (fun k hm hl => by have := List.mem_singleton.1 hm; have := HW6.out; have := H.out.since.size; omega), HXY.out.low⟩
      have HUW : Hid (Upd [bb, bm] w wz) := HUZ.out.trans' hXz (fun k hm hl => by have := List.mem_singleton.1 hm; have := HW6.out; omega)
      clear hXz hzz k6 kC
      go_wp2_with (fail)
      refine bodyPost_ret (results_agg_tmp rfl _ _ b6 44 _ (0, 0) _ rfl kz Try.underlying44 rfl hsz rfl) rfl ?_
      exact ⟨v, last, _, _, _, rfl, HXZ.out, by omega, fun x hx => .inl hx, HUW.out⟩
set_option maxRecDepth 100000 in
set_option maxHeartbeats 6400000 in
theorem put24_full (w w0 : World) (lo bb bm : Nat) (v : Value) (last : Nat) (es ks : List Ent) (D : DataW Value) (h : ExAt w w0 lo bb bm v last es ks D) (hla : last ≤ 100000) (m : Ent) (hv : RdB w0 m.v m.b) (hb3 : m.b.length ≤ 3000) (hb : m.b.length ≤ 1024) (hn : es.length = 4096) :
    Calls Try.prog 33 #[.pointer (some ⟨bb, 0, none⟩), .agg (refC v last), .agg m.cells] w (BothAns w w0 lo bb bm last es) := by
  obtain ⟨id, fr, to, mv, mb⟩ := m
  change RdB w0 mv mb at hv
  change mb.length ≤ 3000 at hb3
  unfold Ent.cells
  obtain ⟨MA, mc, eM, _⟩ := hv.isSlice
  subst eM
  obtain ⟨n, hn0⟩ : ∃ n, mb.length = n := ⟨_, rfl⟩
  have hb' := hb
  simp only at hb'
  rw [hn0] at hv hb3 hb' ⊢
  have H := Lib.hid h
  have HLA := Lib.hid hla
  have HV := Lib.hid hv
  have HN0 := Lib.hid hn0
  have HB3 : Hid (n ≤ 3000) := hb3
  have HBB := Lib.hid hb'
  have hni : (n : Int) ≤ 3000 := by omega
  obtain ⟨VA, vc, eV⟩ := OwnA.isSlice h.row
  have hvo : v.oneCell' = true := by rw [eV]; rfl
  have hsz := size_ref v last
  have hone := one_ref last hvo
  have hsm := size_msg id fr to (.slice MA n mc)
  have hom := one_msg id fr to (v := .slice MA n mc) rfl
  have HES := Lib.hid hn
  clear h hla hv hb3 hb hb' hn0 eV hvo hn
  go_enter Try.func33, Try.ntmps33
  go_wp2_with (with_reducible refine arm_box (by with_unfolding_all exact rfl) ?_)
  intro b4 w1 hb4 k4 hU1 hz1
  change w1.heap[b4]? = some (.cells (refC v last) 44 (0, 0)) at k4
  have HU1 := Lib.hid hU1
  have HL4 := Lib.hid (lt_of_heap k4)
  clear hb4 hU1 hz1
  go_wp2_with (with_reducible refine arm_box (by with_unfolding_all exact rfl) ?_)
  intro b5 w2 hb5 k5 hU2 hz2
  change w2.heap[b5]? = some (.cells (msgC id fr to (.slice MA n mc)) 32 (0, 0)) at k5
  have HK4 := Lib.hid (hU2.heap k4 (by simp))
  have HU2 := Lib.hid (HU1.out.trans hU2)
  clear hb5 hU2 hz2 k4
  go_wp2_with (with_reducible refine arm_alloc (zero_ref _) ?_)
  intro b6 w3 hb6 k6 hU3 hz3
  change w3.heap[b6]? = some (.cells (refC (.slice none 0 0) 0) 44 (0, 0)) at k6
  have HB6 : Hid (w2.heap.size = b6) := hb6
  have HN46 : Hid (b4 ≠ b6) := by show b4 ≠ b6; have := lt_of_heap HK4.out; have := HB6.out; omega
  have HW6 : Hid (w.heap.size ≤ b6) := by show w.heap.size ≤ b6; have := HB6.out; have := HU2.out.size; omega
  have HK4 := Lib.hid (hU3.heap HK4.out (by simp))
  have HK5 := Lib.hid (hU3.heap k5 (by simp))
  have HK6 := Lib.hid k6
  have HU3 := Lib.hid (HU2.out.trans hU3)
  have c5 : w3.cell? ⟨b5, 3, none⟩ = some (.slice MA n mc) := by rw [cell_of_row _ _ _ _ _ _ HK5.out]; rfl
  clear hb6 hU3 hz3 k5 k6
  go_wp2_with (fail)
  refine (roomy_ _ _ mb (by rw [← HN0.out] at HV ⊢; exact HV.out.upd0 (H.out.since.trans HU3.out)) (by rw [HN0.out]; exact HB3.out)).mono ?_
  rintro e w4 ⟨vr, rfl, hO4, hU4⟩
  have hlen4 : (room24 mb).length = n + 64 := by rw [room24_length, HN0.out]
  obtain ⟨g, rc, er, hgl, hgs, hg1, hg2⟩ := hO4.at (by rw [hlen4]; omega)
  rw [hlen4] at er hg1
  subst er
  have HO4 := Lib.hid hO4
  have HGW : Hid (w3.heap.size ≤ g) := (hO4.lt g rfl).1
  have HK4 := Lib.hid (hU4.heap HK4.out (by simp))
  have HK5 := Lib.hid (hU4.heap HK5.out (by simp))
  have HK6 := Lib.hid (hU4.heap HK6.out (by simp))
  have HU4 := Lib.hid (HU3.out.trans hU4)
  have k5 := HK5.out
  have HRC : Hid (n + 64 ≤ rc ∧ rc ≤ maxLen) := ⟨hg1, hg2⟩
  clear hO4 hU4 hlen4 hgl hgs hg1 hg2 c5
  go_wp2_with (first
    | (with_reducible refine arm_load (by with_unfolding_all exact rfl) k5 Try.underlying32 (by with_unfolding_all exact rfl) hsm ?_)
    | (with_reducible refine arm_alloc (zero_msg _) ?_))
  intro b9 w5 hb9 k9 hU5 hz5
  change w5.heap[b9]? = some (.cells (msgC 0 0 0 (.slice none 0 0)) 32 (0, 0)) at k9
  have HB9 : Hid (w4.heap.size = b9) := hb9
  have HN59 : Hid (b5 ≠ b9) := by show b5 ≠ b9; have := lt_of_heap k5; have := HB9.out; omega
  have HK4 := Lib.hid (hU5.heap HK4.out (by simp))
  have HK5 := Lib.hid (hU5.heap HK5.out (by simp))
  have HK6 := Lib.hid (hU5.heap HK6.out (by simp))
  have HO5 := Lib.hid (HO4.out.upd0 hU5)
  have HU5 := Lib.hid (HU4.out.trans hU5)
  clear hb9 hU5 hz5 k5
  go_wp2_with (with_reducible refine arm_store (by with_unfolding_all exact rfl) (by with_unfolding_all exact rfl) k9 hsm (by with_unfolding_all exact rfl) hom ?_)
  intro w6 k9' hX6 hz6
  have HK4 := Lib.hid (hX6.heap HK4.out (fun hm => heap_ne HK4.out k9 (by decide) (List.mem_singleton.1 hm)))
  have HK5 := Lib.hid (hX6.heap HK5.out (fun hm => HN59.out (List.mem_singleton.1 hm)))
  have HK6 := Lib.hid (hX6.heap HK6.out (fun hm => heap_ne HK6.out k9 (by decide) (List.mem_singleton.1 hm)))
  have HO6 := Lib.hid (HO5.out.upd hX6 (fun k hk hm => cells_ne HO5.out k9 (by decide) (by rw [hk, List.mem_singleton.1 hm])))
  have HU6 : Hid (Upd [] w w6) := HU5.out.trans' hX6 (fun k hm hl => by have := List.mem_singleton.1 hm; have := HB9.out; have := HU4.out.size; omega)
  have c5 : w6.cell? ⟨b5, 3, none⟩ = some (.slice MA n mc) := by rw [cell_of_row _ _ _ _ _ _ HK5.out]; rfl
  have HB9' : Hid (w.heap.size ≤ b9) := by show w.heap.size ≤ b9; have := HB9.out; have := HU4.out.size; omega
  have HLP := Lib.hid (room24_take mb n HN0.out)
  have hR6 := HO6.out.rd
  clear k9 hX6 hz6
  go_upto_region 3 with (fail)
  go_simp
  go_wp2_with (refine cut_bytes rfl _ _ _ rfl (some ⟨g, 0, none⟩) (n + 64) rc (by with_unfolding_all exact rfl) (room24 mb) hR6 0 n (.inl ⟨rfl, rfl⟩) (.inr (by with_unfolding_all exact rfl)) (Nat.zero_le _) (by omega) ?_)
  intro BX hRX hBX
  have hRX' : RdB w6 (.slice BX n rc) mb := by rw [HLP.out] at hRX; simpa using hRX
  have HRX := Lib.hid hRX'
  try simp only [Nat.sub_zero]
  clear hRX hBX hRX' c5 hR6
  go_wp2_with (with_reducible refine arm_store_at (by with_unfolding_all exact rfl) (by with_unfolding_all exact rfl) k9' (by simp [msgC]) (by with_unfolding_all exact rfl) size_bytes1 (by with_unfolding_all exact rfl) ?_)
  intro w7 k7 hX7 hz7
  change w7.heap[b9]? = some (.cells (msgC id fr to (.slice BX n rc)) 32 (0, 0)) at k7
  have HN49 : Hid (b4 ≠ b9) := fun e => heap_ne HK4.out k9' (by decide) e
  have HN69 : Hid (b6 ≠ b9) := fun e => heap_ne HK6.out k9' (by decide) e
  have HGT : Hid (∀ k, (Value.slice (some ⟨g, 0, none⟩) (n + 64) rc).ownBlock = some k → k ∉ [b9]) := fun k hk hm => cells_ne HO6.out k9' (by decide) (by rw [hk, List.mem_singleton.1 hm])
  have HK4 := Lib.hid (hX7.heap HK4.out (fun hm => HN49.out (List.mem_singleton.1 hm)))
  have HK5 := Lib.hid (hX7.heap HK5.out (fun hm => HN59.out (List.mem_singleton.1 hm)))
  have HK6 := Lib.hid (hX7.heap HK6.out (fun hm => HN69.out (List.mem_singleton.1 hm)))
  have HO7 := Lib.hid (HO6.out.upd hX7 HGT.out)
  have HR7 : Hid (RdB w7 (.slice BX n rc) mb) := HRX.out.upd' hX7 (fun h0 k hk hm => by
    obtain ⟨g', p', c', e, _, _, hby⟩ := HRX.out.at h0
    injection e with e _ _
    subst e
    simp only [Value.ownBlock, Option.some.injEq] at hk
    subst hk
    have h1 := hby 0 h0
    rw [List.mem_singleton.1 hm, cell_of_row _ _ _ _ _ _ k9'] at h1
    have h2 : ∀ (q : Nat), (msgC id fr to (.slice MA n mc))[q]? ≠ some (U8 mb[0]) := fun q => by
      match q with
      | 0 => simp [msgC, U8]
      | 1 => simp [msgC, U8]
      | 2 => simp [msgC, U8]
      | 3 => simp [msgC, U8]
      | _ + 4 => simp [msgC]
    exact h2 _ h1)
  have HU7 : Hid (Upd [] w w7) := HU6.out.trans' hX7 (fun k hm hl => by have := List.mem_singleton.1 hm; have := HB9'.out; omega)
  have HX := Lib.hid (H.out.upd0 HU7.out)
  clear hX7 hz7 k9'
  have hs9 := size_msg id fr to (.slice BX n rc)
  go_wp2_with (with_reducible refine arm_load (by with_unfolding_all exact rfl) k7 Try.underlying32 (by with_unfolding_all exact rfl) hs9 ?_)

  refine (put_full _ lo bb bm last es D HX.out.bag id fr to (.slice BX n rc) mb HR7.out (by rw [HN0.out]; exact HBB.out) HES.out).mono ?_
  rintro e w8 ⟨rfl, hU8⟩
  have HBG := Lib.hid (HX.out.bag.upd0 hU8)
  have HU78 : Hid (Upd [bb, bm] w7 w8) := hU8.of0
  clear hU8 k7 hs9
  have HFR : Hid (∀ {k : Nat} {C : Array Value} {T : TypeId} {fr' : Nat × Nat}, w7.heap[k]? = some (.cells C T fr') → T ≠ 71 → w8.heap[k]? = some (.cells C T fr')) := fun {k C T fr'} h1 h2 => HU78.out.heap h1 (fun hm => by
    simp only [List.mem_cons, List.not_mem_nil, or_false] at hm
    rcases hm with rfl | rfl
    · exact heap_ne h1 HX.out.bag.cells h2 rfl
    · exact map_ne HX.out.bag.map h1 rfl)
  have HNO : Hid (∀ {B sz n : Nat} {e : TypeId} {u : Value} {xs : List Value}, w7.ownsRow B e sz u n xs → e ≠ 71 → ∀ k, u.ownBlock = some k → k ∉ [bb, bm]) := fun {B sz n e u xs} h1 h2 k hk hm => by
    obtain ⟨C, fr', h3⟩ := own_type h1 hk
    simp only [List.mem_cons, List.not_mem_nil, or_false] at hm
    rcases hm with rfl | rfl
    · exact heap_ne h3 HX.out.bag.cells h2 rfl
    · exact map_ne HX.out.bag.map h3 rfl
  have k4 := HFR.out HK4.out (by decide)
  have k5 := HFR.out HK5.out (by decide)
  have HK6 := Lib.hid (HFR.out HK6.out (by decide))
  have HO8 : Hid (OwnB w8 w3.heap.size (.slice (some ⟨g, 0, none⟩) (n + 64) rc) (room24 mb)) := HO7.out.upd HU78.out (HNO.out HO7.out (by decide))
  have HRW : Hid (OwnA w8 lo 32 4 v (ks.map fun t => t.cells.toList)) := HX.out.row.upd HU78.out (HNO.out HX.out.row.2 (by decide))
  have HSI : Hid (Upd [] w0 w8) := HX.out.since.trans' HU78.out (fun k hm hl => by simp at hm; have := H.out.low; have := H.out.bag.low; omega)
  have HU8 : Hid (Upd [bb, bm] w w8) := (HU7.out.of0).trans HU78.out
  have HWZ : Hid (w.heap.size ≤ w8.heap.size) := HU8.out.size
  have HLOW : Hid (lo ≤ w8.heap.size) := by show lo ≤ w8.heap.size; have := H.out.bag.low; have := lt_of_heap HBG.out.cells; omega
  go_wp2_with (first
    | (with_reducible refine arm_load (by with_unfolding_all exact rfl) k4 Try.underlying44 (by with_unfolding_all exact rfl) hsz ?_)
    | (with_reducible refine arm_load (by with_unfolding_all exact rfl) k5 Try.underlying32 (by with_unfolding_all exact rfl) hsm ?_))
  refine (rput_full _ v last ks ⟨HRW.out.rd, fun k hk => (H.out.rd k hk).upd0 HSI.out⟩ ⟨id, fr, to, .slice MA n mc, mb⟩ (HV.out.upd0 HSI.out) (by rw [HN0.out]; exact HBB.out) (by rw [← H.out.len]; exact HES.out)).mono ?_
  rintro e w9 ⟨rfl, hU9⟩
  have HRW9 := Lib.hid (HRW.out.upd0 hU9)
  have HK5 := Lib.hid (hU9.heap k5 (by simp))
  have HK6 := Lib.hid (hU9.heap HK6.out (by simp))
  have HBG := Lib.hid (HBG.out.upd0 hU9)
  have HO9 := Lib.hid (HO8.out.upd0 hU9)
  have HSI := Lib.hid (HSI.out.trans hU9)
  have HU9 := Lib.hid (HU8.out.trans0 hU9)
  have HL9 : Hid (w.heap.size ≤ w9.heap.size) := HU9.out.size
  clear hU9 k4 k5
  go_wp2_with (with_reducible refine arm_alloc (zero_ref _) ?_)
  intro bC wa hbC kC hUa hza
  change wa.heap[bC]? = some (.cells (refC (.slice none 0 0) 0) 44 (0, 0)) at kC
  have HBC : Hid (w9.heap.size = bC) := hbC
  have HK5 := Lib.hid (hUa.heap HK5.out (by simp))
  have HN6C : Hid (b6 ≠ bC) := by show b6 ≠ bC; have := lt_of_heap HK6.out; have := HBC.out; omega
  have HK6 := Lib.hid (hUa.heap HK6.out (by simp))
  have HBG := Lib.hid (HBG.out.upd0 hUa)
  have HO9 := Lib.hid (HO9.out.upd0 hUa)
  have HRW9 := Lib.hid (HRW9.out.upd0 hUa)
  have HSI := Lib.hid (HSI.out.trans hUa)
  have HU9 := Lib.hid (HU9.out.trans0 hUa)
  clear hbC hUa hza
  go_wp2_with (with_reducible refine arm_store (by with_unfolding_all exact rfl) (by with_unfolding_all exact rfl) kC hsz (by with_unfolding_all exact rfl) hone ?_)
  intro wb kC' hXb hzb
  have HTC : Hid (∀ {k : Nat} {C : Array Value} {T : TypeId} {fr' : Nat × Nat}, wa.heap[k]? = some (.cells C T fr') → T ≠ 44 → k ≠ bC) := fun {k C T fr'} h1 h2 => heap_ne h1 kC h2
  have HNC : Hid (∀ {B sz n : Nat} {e : TypeId} {u : Value} {xs : List Value}, wa.ownsRow B e sz u n xs → e ≠ 44 → ∀ k, u.ownBlock = some k → k ∉ [bC]) := fun {B sz n e u xs} h1 h2 k hk hm => by
    obtain ⟨C, fr', h3⟩ := own_type h1 hk
    exact HTC.out h3 h2 (List.mem_singleton.1 hm)
  have c5 : wb.cell? ⟨b5, 3, none⟩ = some (.slice MA n mc) := by rw [cell_of_row _ _ _ _ _ _ (hXb.heap HK5.out (fun hm => HTC.out HK5.out (by decide) (List.mem_singleton.1 hm)))]; rfl
  have HK6 := Lib.hid (hXb.heap HK6.out (fun hm => HN6C.out (List.mem_singleton.1 hm)))
  have HBG := Lib.hid (HBG.out.upd hXb (fun hm => HTC.out HBG.out.cells (by decide) (List.mem_singleton.1 hm)) (fun hm => map_ne HBG.out.map kC (List.mem_singleton.1 hm)) (fun e he k hk => HNC.out (HBG.out.rows e he) (by decide) k hk))
  have HO9 := Lib.hid (HO9.out.upd hXb (HNC.out HO9.out (by decide)))
  have HRW9 := Lib.hid (HRW9.out.upd hXb (HNC.out HRW9.out.2 (by decide)))
  have HCW : Hid (w.heap.size ≤ bC) := by show w.heap.size ≤ bC; have := HBC.out; have := HL9.out; omega
  have HCW0 : Hid (w0.heap.size ≤ bC) := Nat.le_trans H.out.since.size HCW.out
  have HSI : Hid (Upd [] w0 wb) := HSI.out.trans' hXb (fun k hm hl => by have := List.mem_singleton.1 hm; have := HCW0.out; omega)
  have HU9 : Hid (Upd [bb, bm] w wb) := HU9.out.trans' hXb (fun k hm hl => by have := List.mem_singleton.1 hm; have := HCW.out; omega)
  have HKC := Lib.hid kC'
  clear hXb hzb kC kC'
  go_wp2_with (fail)
  refine (roomy_ _ _ mb (by rw [← HN0.out] at HV ⊢; exact HV.out.upd0 HSI.out) (by rw [HN0.out]; exact HB3.out)).mono ?_
  rintro e wc ⟨vq, rfl, hOc, hUc⟩
  have HOc := Lib.hid hOc
  have HK6 := Lib.hid (hUc.heap HK6.out (by simp))
  have HKC := Lib.hid (hUc.heap HKC.out (by simp))
  have HBG := Lib.hid (HBG.out.upd0 hUc)
  have HO9 := Lib.hid (HO9.out.upd0 hUc)
  have HRW9 := Lib.hid (HRW9.out.upd0 hUc)
  have HSI := Lib.hid (HSI.out.trans hUc)
  have HU9 := Lib.hid (HU9.out.trans0 hUc)
  clear hOc hUc c5
  go_wp2_with (fail)
  refine (same24 _ _ _ (room24 mb) (room24 mb) HO9.out.rd HOc.out.rd (by rw [room24_length, HN0.out]; have := HB3.out; omega) (by rw [room24_length, HN0.out]; have := HB3.out; omega)).mono ?_
  rintro e wd ⟨rfl, hUd⟩
  have heq : (room24 mb == room24 mb) = true := by simp
  rw [heq]
  have HK6 := Lib.hid (hUd.heap HK6.out (by simp))
  have HKC := Lib.hid (hUd.heap HKC.out (by simp))
  have HBG := Lib.hid (HBG.out.upd0 hUd)
  have HO9 := Lib.hid (HO9.out.upd0 hUd)
  have HRW9 := Lib.hid (HRW9.out.upd0 hUd)
  have HSI := Lib.hid (HSI.out.trans hUd)
  have HU9 := Lib.hid (HU9.out.trans0 hUd)
  have HGD : Hid (∃ C fr', wd.heap[g]? = some (.cells C 5 fr')) := own_type HO9.out rfl
  have HGB : Hid (∀ e ∈ es, e.v.ownBlock ≠ some g) := fun e he hk => by
    have h1 := ((H.out.bag.rows e he).lt g hk).2
    have := HGW.out
    have := HU3.out.size
    omega
  have hn64 : ((n : Int) + 64) ≤ 3064 := by omega
  clear hUd heq
  go_wp2_with (fail)
  go_loopw [16] (fun iv wr => ∃ (i : Nat) (l : List (BitVec 8)), iv = .int .i64 i ∧ i ≤ n + 64 ∧ l.length = n + 64 ∧ OwnB wr w3.heap.size (.slice (some ⟨g, 0, none⟩) (n + 64) rc) l ∧ Upd [g] wd wr) (fun iv _ => n + 64 - (intOf iv).toNat)
  case atStart => exact ⟨0, room24 mb, rfl, Nat.zero_le _, by rw [room24_length, HN0.out], HO9.out, Upd.refl _ _⟩
  case round =>
    obtain ⟨i, l, rfl, hi, hl, hO, hU⟩ := hrel
    have HO := Lib.hid hO
    have HU := Lib.hid hU
    have HL := Lib.hid hl
    clear hO hU hl
    by_cases hlt : i < n + 64
    · have hli : (i : Int) < (n : Int) + 64 := by omega
      have hil : i < l.length := by rw [HL.out]; exact hlt
      have hc := OwnB.cell HO.out i hil
      have hf := OwnB.frozen HO.out i hil
      have HS := Lib.hid (OwnB.set HO.out i hil 7)
      have HUS : Hid (Upd [g] wd (wr.setCell ⟨g, i, none⟩ (U8 7))) := HU.out.setCell _ _ (fun _ => by simp)
      obtain ⟨y, hy⟩ : ∃ y, l[i] = y := ⟨_, rfl⟩
      rw [hy] at hc
      clear hy hil
      go_wp2_with (fail)
      go_roundw
      case rel => exact ⟨i + 1, l.set i 7, by go_num, by omega, by rw [List.length_set]; exact HL.out, HS.out, HUS.out⟩
      case measure => simp [intOf]; omega
    · have hli : ¬ (i : Int) < (n : Int) + 64 := by omega
      have h6g : b6 ≠ g := by obtain ⟨C, fr', h1⟩ := HGD.out; exact heap_ne HK6.out h1 (by decide)
      have hCg : bC ≠ g := by obtain ⟨C, fr', h1⟩ := HGD.out; exact heap_ne HKC.out h1 (by decide)
      have k6 := HU.out.heap HK6.out (fun hm => h6g (List.mem_singleton.1 hm))
      have kC := HU.out.heap HKC.out (fun hm => hCg (List.mem_singleton.1 hm))
      have HXX : Hid (ExAt wd w0 lo bb bm v last es ks D) := ⟨HBG.out, by exact H.out.alike, HRW9.out, by exact H.out.rd, HSI.out, H.out.low⟩
      have HLG : Hid (lo ≤ g ∨ True) := .inr trivial
      have HXY : Hid (ExAt wr w0 lo bb bm v last es ks D) := HXX.out.bytes HU.out (fun k hm => by
        rw [List.mem_singleton.1 hm]
        exact ⟨by have := HGW.out; have := HU3.out.size; have := H.out.bag.low; have := lt_of_heap H.out.bag.cells; omega, HGD.out, HGB.out⟩)
      have HUZ : Hid (Upd [bb, bm] w wr) := HU9.out.trans' HU.out (fun k hm hl => by have := List.mem_singleton.1 hm; have := HGW.out; have := HU3.out.size; omega)
      clear hlt h6g hCg
      go_wp2_with (first
        | (with_reducible refine arm_load (by with_unfolding_all exact rfl) kC Try.underlying44 (by with_unfolding_all exact rfl) hsz ?_)
        | (with_reducible refine arm_store (by with_unfolding_all exact rfl) (by with_unfolding_all exact rfl) k6 hsz (by with_unfolding_all exact rfl) hone ?_))
      intro wz kz hXz hzz
      have HTZ : Hid (∀ {k : Nat} {C : Array Value} {T : TypeId} {fr' : Nat × Nat}, wr.heap[k]? = some (.cells C T fr') → T ≠ 44 → k ≠ b6) := fun {k C T fr'} h1 h2 => heap_ne h1 k6 h2
      have HXZ : Hid (ExAt wz w0 lo bb bm v last es ks D) := ⟨HXY.out.bag.upd hXz (fun hm => HTZ.out HXY.out.bag.cells (by decide) (List.mem_singleton.1 hm)) (fun hm => map_ne HXY.out.bag.map k6 (List.mem_singleton.1 hm)) (fun e he k hk hm => by obtain ⟨C, fr', h3⟩ := own_type (HXY.out.bag.rows e he) hk; exact HTZ.out h3 (by decide) (List.mem_singleton.1 hm)), HXY.out.alike, HXY.out.row.upd hXz (fun k hk hm => by obtain ⟨C, fr', h3⟩ := own_type HXY.out.row.2 hk; exact HTZ.out h3 (by decide) (List.mem_singleton.1 hm)), HXY.out.rd, HXY.out.since.trans' hXz (fun k hm hl => by have := List.mem_singleton.1 hm; have := HW6.out; have := H.out.since.size; omega), HXY.out.low⟩
      have HUW : Hid (Upd [bb, bm] w wz) := HUZ.out.trans' hXz (fun k hm hl => by have := List.mem_singleton.1 hm; have := HW6.out; omega)
      clear hXz hzz k6 kC
      go_wp2_with (fail)
      refine bodyPost_ret (results_agg_tmp rfl _ _ b6 44 _ (0, 0) _ rfl kz Try.underlying44 rfl hsz rfl) rfl ?_
      exact ⟨v, last, _, _, _, rfl, HXZ.out, by omega, fun x hx => .inl hx, HUW.out⟩
set_option maxRecDepth 100000 in
set_option maxHeartbeats 6400000 in
theorem put24_ok (w w0 : World) (lo bb bm : Nat) (v : Value) (last : Nat) (es ks : List Ent) (D : DataW Value) (h : ExAt w w0 lo bb bm v last es ks D) (hla : last ≤ 100000) (m : Ent) (hv : RdB w0 m.v m.b) (hb3 : m.b.length ≤ 3000) (hb : m.b.length ≤ 1024) (hn : es.length < 4096) :
    Calls Try.prog 33 #[.pointer (some ⟨bb, 0, none⟩), .agg (refC v last), .agg m.cells] w (BothAns w w0 lo bb bm last es) := by
  obtain ⟨id, fr, to, mv, mb⟩ := m
  change RdB w0 mv mb at hv
  change mb.length ≤ 3000 at hb3
  unfold Ent.cells
  obtain ⟨MA, mc, eM, _⟩ := hv.isSlice
  subst eM
  obtain ⟨n, hn0⟩ : ∃ n, mb.length = n := ⟨_, rfl⟩
  have hb' := hb
  simp only at hb'
  rw [hn0] at hv hb3 hb' ⊢
  have H := Lib.hid h
  have HLA := Lib.hid hla
  have HV := Lib.hid hv
  have HN0 := Lib.hid hn0
  have HB3 : Hid (n ≤ 3000) := hb3
  have HBB := Lib.hid hb'
  have hni : (n : Int) ≤ 3000 := by omega
  obtain ⟨VA, vc, eV⟩ := OwnA.isSlice h.row
  have hvo : v.oneCell' = true := by rw [eV]; rfl
  have hsz := size_ref v last
  have hone := one_ref last hvo
  have hsm := size_msg id fr to (.slice MA n mc)
  have hom := one_msg id fr to (v := .slice MA n mc) rfl
  have HES := Lib.hid hn
  clear h hla hv hb3 hb hb' hn0 eV hvo hn
  go_enter Try.func33, Try.ntmps33
  go_wp2_with (with_reducible refine arm_box (by with_unfolding_all exact rfl) ?_)
  intro b4 w1 hb4 k4 hU1 hz1
  change w1.heap[b4]? = some (.cells (refC v last) 44 (0, 0)) at k4
  have HU1 := Lib.hid hU1
  have HL4 := Lib.hid (lt_of_heap k4)
  clear hb4 hU1 hz1
  go_wp2_with (with_reducible refine arm_box (by with_unfolding_all exact rfl) ?_)
  intro b5 w2 hb5 k5 hU2 hz2
  change w2.heap[b5]? = some (.cells (msgC id fr to (.slice MA n mc)) 32 (0, 0)) at k5
  have HK4 := Lib.hid (hU2.heap k4 (by simp))
  have HU2 := Lib.hid (HU1.out.trans hU2)
  clear hb5 hU2 hz2 k4
  go_wp2_with (with_reducible refine arm_alloc (zero_ref _) ?_)
  intro b6 w3 hb6 k6 hU3 hz3
  change w3.heap[b6]? = some (.cells (refC (.slice none 0 0) 0) 44 (0, 0)) at k6
  have HB6 : Hid (w2.heap.size = b6) := hb6
  have HN46 : Hid (b4 ≠ b6) := by show b4 ≠ b6; have := lt_of_heap HK4.out; have := HB6.out; omega
  have HW6 : Hid (w.heap.size ≤ b6) := by show w.heap.size ≤ b6; have := HB6.out; have := HU2.out.size; omega
  have HK4 := Lib.hid (hU3.heap HK4.out (by simp))
  have HK5 := Lib.hid (hU3.heap k5 (by simp))
  have HK6 := Lib.hid k6
  have HU3 := Lib.hid (HU2.out.trans hU3)
  have c5 : w3.cell? ⟨b5, 3, none⟩ = some (.slice MA n mc) := by rw [cell_of_row _ _ _ _ _ _ HK5.out]; rfl
  clear hb6 hU3 hz3 k5 k6
  go_wp2_with (fail)
  refine (roomy_ _ _ mb (by rw [← HN0.out] at HV ⊢; exact HV.out.upd0 (H.out.since.trans HU3.out)) (by rw [HN0.out]; exact HB3.out)).mono ?_
  rintro e w4 ⟨vr, rfl, hO4, hU4⟩
  have hlen4 : (room24 mb).length = n + 64 := by rw [room24_length, HN0.out]
  obtain ⟨g, rc, er, hgl, hgs, hg1, hg2⟩ := hO4.at (by rw [hlen4]; omega)
  rw [hlen4] at er hg1
  subst er
  have HO4 := Lib.hid hO4
  have HGW : Hid (w3.heap.size ≤ g) := (hO4.lt g rfl).1
  have HK4 := Lib.hid (hU4.heap HK4.out (by simp))
  have HK5 := Lib.hid (hU4.heap HK5.out (by simp))
  have HK6 := Lib.hid (hU4.heap HK6.out (by simp))
  have HU4 := Lib.hid (HU3.out.trans hU4)
  have k5 := HK5.out
  have HRC : Hid (n + 64 ≤ rc ∧ rc ≤ maxLen) := ⟨hg1, hg2⟩
  clear hO4 hU4 hlen4 hgl hgs hg1 hg2 c5
  go_wp2_with (first
    | (with_reducible refine arm_load (by with_unfolding_all exact rfl) k5 Try.underlying32 (by with_unfolding_all exact rfl) hsm ?_)
    | (with_reducible refine arm_alloc (zero_msg _) ?_))
  intro b9 w5 hb9 k9 hU5 hz5
  change w5.heap[b9]? = some (.cells (msgC 0 0 0 (.slice none 0 0)) 32 (0, 0)) at k9
  have HB9 : Hid (w4.heap.size = b9) := hb9
  have HN59 : Hid (b5 ≠ b9) := by show b5 ≠ b9; have := lt_of_heap k5; have := HB9.out; omega
  have HK4 := Lib.hid (hU5.heap HK4.out (by simp))
  have HK5 := Lib.hid (hU5.heap HK5.out (by simp))
  have HK6 := Lib.hid (hU5.heap HK6.out (by simp))
  have HO5 := Lib.hid (HO4.out.upd0 hU5)
  have HU5 := Lib.hid (HU4.out.trans hU5)
  clear hb9 hU5 hz5 k5
  go_wp2_with (with_reducible refine arm_store (by with_unfolding_all exact rfl) (by with_unfolding_all exact rfl) k9 hsm (by with_unfolding_all exact rfl) hom ?_)
  intro w6 k9' hX6 hz6
  have HK4 := Lib.hid (hX6.heap HK4.out (fun hm => heap_ne HK4.out k9 (by decide) (List.mem_singleton.1 hm)))
  have HK5 := Lib.hid (hX6.heap HK5.out (fun hm => HN59.out (List.mem_singleton.1 hm)))
  have HK6 := Lib.hid (hX6.heap HK6.out (fun hm => heap_ne HK6.out k9 (by decide) (List.mem_singleton.1 hm)))
  have HO6 := Lib.hid (HO5.out.upd hX6 (fun k hk hm => cells_ne HO5.out k9 (by decide) (by rw [hk, List.mem_singleton.1 hm])))
  have HU6 : Hid (Upd [] w w6) := HU5.out.trans' hX6 (fun k hm hl => by have := List.mem_singleton.1 hm; have := HB9.out; have := HU4.out.size; omega)
  have c5 : w6.cell? ⟨b5, 3, none⟩ = some (.slice MA n mc) := by rw [cell_of_row _ _ _ _ _ _ HK5.out]; rfl
  have HB9' : Hid (w.heap.size ≤ b9) := by show w.heap.size ≤ b9; have := HB9.out; have := HU4.out.size; omega
  have HLP := Lib.hid (room24_take mb n HN0.out)
  have hR6 := HO6.out.rd
  clear k9 hX6 hz6
  go_upto_region 3 with (fail)
  go_simp
  go_wp2_with (refine cut_bytes rfl _ _ _ rfl (some ⟨g, 0, none⟩) (n + 64) rc (by with_unfolding_all exact rfl) (room24 mb) hR6 0 n (.inl ⟨rfl, rfl⟩) (.inr (by with_unfolding_all exact rfl)) (Nat.zero_le _) (by omega) ?_)
  intro BX hRX hBX
  have hRX' : RdB w6 (.slice BX n rc) mb := by rw [HLP.out] at hRX; simpa using hRX
  have HRX := Lib.hid hRX'
  try simp only [Nat.sub_zero]
  clear hRX hBX hRX' c5 hR6
  go_wp2_with (with_reducible refine arm_store_at (by with_unfolding_all exact rfl) (by with_unfolding_all exact rfl) k9' (by simp [msgC]) (by with_unfolding_all exact rfl) size_bytes1 (by with_unfolding_all exact rfl) ?_)
  intro w7 k7 hX7 hz7
  change w7.heap[b9]? = some (.cells (msgC id fr to (.slice BX n rc)) 32 (0, 0)) at k7
  have HN49 : Hid (b4 ≠ b9) := fun e => heap_ne HK4.out k9' (by decide) e
  have HN69 : Hid (b6 ≠ b9) := fun e => heap_ne HK6.out k9' (by decide) e
  have HGT : Hid (∀ k, (Value.slice (some ⟨g, 0, none⟩) (n + 64) rc).ownBlock = some k → k ∉ [b9]) := fun k hk hm => cells_ne HO6.out k9' (by decide) (by rw [hk, List.mem_singleton.1 hm])
  have HK4 := Lib.hid (hX7.heap HK4.out (fun hm => HN49.out (List.mem_singleton.1 hm)))
  have HK5 := Lib.hid (hX7.heap HK5.out (fun hm => HN59.out (List.mem_singleton.1 hm)))
  have HK6 := Lib.hid (hX7.heap HK6.out (fun hm => HN69.out (List.mem_singleton.1 hm)))
  have HO7 := Lib.hid (HO6.out.upd hX7 HGT.out)
  have HR7 : Hid (RdB w7 (.slice BX n rc) mb) := HRX.out.upd' hX7 (fun h0 k hk hm => by
    obtain ⟨g', p', c', e, _, _, hby⟩ := HRX.out.at h0
    injection e with e _ _
    subst e
    simp only [Value.ownBlock, Option.some.injEq] at hk
    subst hk
    have h1 := hby 0 h0
    rw [List.mem_singleton.1 hm, cell_of_row _ _ _ _ _ _ k9'] at h1
    have h2 : ∀ (q : Nat), (msgC id fr to (.slice MA n mc))[q]? ≠ some (U8 mb[0]) := fun q => by
      match q with
      | 0 => simp [msgC, U8]
      | 1 => simp [msgC, U8]
      | 2 => simp [msgC, U8]
      | 3 => simp [msgC, U8]
      | _ + 4 => simp [msgC]
    exact h2 _ h1)
  have HU7 : Hid (Upd [] w w7) := HU6.out.trans' hX7 (fun k hm hl => by have := List.mem_singleton.1 hm; have := HB9'.out; omega)
  have HX := Lib.hid (H.out.upd0 HU7.out)
  clear hX7 hz7 k9'
  have hs9 := size_msg id fr to (.slice BX n rc)
  go_wp2_with (with_reducible refine arm_load (by with_unfolding_all exact rfl) k7 Try.underlying32 (by with_unfolding_all exact rfl) hs9 ?_)

  refine (put_ _ lo bb bm last es D HX.out.bag id fr to (.slice BX n rc) mb HR7.out (by rw [HN0.out]; exact HBB.out) HLA.out HES.out).mono ?_
  rintro e w8 ⟨v8, D8, rfl, hB8, hn8, hU8⟩
  have HBG := Lib.hid hB8
  have HU78 : Hid (Upd [bb, bm] w7 w8) := hU8
  have HV8 := Lib.hid hn8
  clear hB8 hn8
  clear hU8 k7 hs9
  have HFR : Hid (∀ {k : Nat} {C : Array Value} {T : TypeId} {fr' : Nat × Nat}, w7.heap[k]? = some (.cells C T fr') → T ≠ 71 → w8.heap[k]? = some (.cells C T fr')) := fun {k C T fr'} h1 h2 => HU78.out.heap h1 (fun hm => by
    simp only [List.mem_cons, List.not_mem_nil, or_false] at hm
    rcases hm with rfl | rfl
    · exact heap_ne h1 HX.out.bag.cells h2 rfl
    · exact map_ne HX.out.bag.map h1 rfl)
  have HNO : Hid (∀ {B sz n : Nat} {e : TypeId} {u : Value} {xs : List Value}, w7.ownsRow B e sz u n xs → e ≠ 71 → ∀ k, u.ownBlock = some k → k ∉ [bb, bm]) := fun {B sz n e u xs} h1 h2 k hk hm => by
    obtain ⟨C, fr', h3⟩ := own_type h1 hk
    simp only [List.mem_cons, List.not_mem_nil, or_false] at hm
    rcases hm with rfl | rfl
    · exact heap_ne h3 HX.out.bag.cells h2 rfl
    · exact map_ne HX.out.bag.map h3 rfl
  have k4 := HFR.out HK4.out (by decide)
  have k5 := HFR.out HK5.out (by decide)
  have HK6 := Lib.hid (HFR.out HK6.out (by decide))
  have HO8 : Hid (OwnB w8 w3.heap.size (.slice (some ⟨g, 0, none⟩) (n + 64) rc) (room24 mb)) := HO7.out.upd HU78.out (HNO.out HO7.out (by decide))
  have HRW : Hid (OwnA w8 lo 32 4 v (ks.map fun t => t.cells.toList)) := HX.out.row.upd HU78.out (HNO.out HX.out.row.2 (by decide))
  have HSI : Hid (Upd [] w0 w8) := HX.out.since.trans' HU78.out (fun k hm hl => by simp at hm; have := H.out.low; have := H.out.bag.low; omega)
  have HU8 : Hid (Upd [bb, bm] w w8) := (HU7.out.of0).trans HU78.out
  have HWZ : Hid (w.heap.size ≤ w8.heap.size) := HU8.out.size
  have HLOW : Hid (lo ≤ w8.heap.size) := by show lo ≤ w8.heap.size; have := H.out.bag.low; have := lt_of_heap HBG.out.cells; omega
  go_wp2_with (first
    | (with_reducible refine arm_load (by with_unfolding_all exact rfl) k4 Try.underlying44 (by with_unfolding_all exact rfl) hsz ?_)
    | (with_reducible refine arm_load (by with_unfolding_all exact rfl) k5 Try.underlying32 (by with_unfolding_all exact rfl) hsm ?_))
  refine (rput_ok _ v last ks ⟨HRW.out.rd, fun k hk => (H.out.rd k hk).upd0 HSI.out⟩ ⟨id, fr, to, .slice MA n mc, mb⟩ (HV.out.upd0 HSI.out) (by rw [HN0.out]; exact HBB.out) (by rw [← H.out.len]; exact HES.out) HLA.out).mono ?_
  rintro e w9 ⟨v9, rfl, hO9, hU9⟩
  have HRW9 : Hid (OwnA w9 lo 32 4 v9 ((ks ++ [(Ent.mk id fr to (.slice MA n mc) mb).as ((last : Int) + 1)]).map fun t => t.cells.toList)) := hO9.mono (fun k hk => by have := (hO9.lt k hk).1; have := HLOW.out; omega)
  have hv9 : v9.oneCell' = true := by obtain ⟨a, q, e⟩ := OwnA.isSlice hO9; rw [e]; rfl
  have hs9 := size_ref v9 ((last : Int) + 1)
  have ho9 := one_ref ((last : Int) + 1) hv9
  clear hO9 hv9
  have HK5 := Lib.hid (hU9.heap k5 (by simp))
  have HK6 := Lib.hid (hU9.heap HK6.out (by simp))
  have HBG := Lib.hid (HBG.out.upd0 hU9)
  have HO9 := Lib.hid (HO8.out.upd0 hU9)
  have HSI := Lib.hid (HSI.out.trans hU9)
  have HU9 := Lib.hid (HU8.out.trans0 hU9)
  have HL9 : Hid (w.heap.size ≤ w9.heap.size) := HU9.out.size
  clear hU9 k4 k5
  go_wp2_with (with_reducible refine arm_alloc (zero_ref _) ?_)
  intro bC wa hbC kC hUa hza
  change wa.heap[bC]? = some (.cells (refC (.slice none 0 0) 0) 44 (0, 0)) at kC
  have HBC : Hid (w9.heap.size = bC) := hbC
  have HK5 := Lib.hid (hUa.heap HK5.out (by simp))
  have HN6C : Hid (b6 ≠ bC) := by show b6 ≠ bC; have := lt_of_heap HK6.out; have := HBC.out; omega
  have HK6 := Lib.hid (hUa.heap HK6.out (by simp))
  have HBG := Lib.hid (HBG.out.upd0 hUa)
  have HO9 := Lib.hid (HO9.out.upd0 hUa)
  have HRW9 := Lib.hid (HRW9.out.upd0 hUa)
  have HSI := Lib.hid (HSI.out.trans hUa)
  have HU9 := Lib.hid (HU9.out.trans0 hUa)
  clear hbC hUa hza
  go_wp2_with (with_reducible refine arm_store (by with_unfolding_all exact rfl) (by with_unfolding_all exact rfl) kC hs9 (by with_unfolding_all exact rfl) ho9 ?_)
  intro wb kC' hXb hzb
  have HTC : Hid (∀ {k : Nat} {C : Array Value} {T : TypeId} {fr' : Nat × Nat}, wa.heap[k]? = some (.cells C T fr') → T ≠ 44 → k ≠ bC) := fun {k C T fr'} h1 h2 => heap_ne h1 kC h2
  have HNC : Hid (∀ {B sz n : Nat} {e : TypeId} {u : Value} {xs : List Value}, wa.ownsRow B e sz u n xs → e ≠ 44 → ∀ k, u.ownBlock = some k → k ∉ [bC]) := fun {B sz n e u xs} h1 h2 k hk hm => by
    obtain ⟨C, fr', h3⟩ := own_type h1 hk
    exact HTC.out h3 h2 (List.mem_singleton.1 hm)
  have c5 : wb.cell? ⟨b5, 3, none⟩ = some (.slice MA n mc) := by rw [cell_of_row _ _ _ _ _ _ (hXb.heap HK5.out (fun hm => HTC.out HK5.out (by decide) (List.mem_singleton.1 hm)))]; rfl
  have HK6 := Lib.hid (hXb.heap HK6.out (fun hm => HN6C.out (List.mem_singleton.1 hm)))
  have HBG := Lib.hid (HBG.out.upd hXb (fun hm => HTC.out HBG.out.cells (by decide) (List.mem_singleton.1 hm)) (fun hm => map_ne HBG.out.map kC (List.mem_singleton.1 hm)) (fun e he k hk => HNC.out (HBG.out.rows e he) (by decide) k hk))
  have HO9 := Lib.hid (HO9.out.upd hXb (HNC.out HO9.out (by decide)))
  have HRW9 := Lib.hid (HRW9.out.upd hXb (HNC.out HRW9.out.2 (by decide)))
  have HCW : Hid (w.heap.size ≤ bC) := by show w.heap.size ≤ bC; have := HBC.out; have := HL9.out; omega
  have HCW0 : Hid (w0.heap.size ≤ bC) := Nat.le_trans H.out.since.size HCW.out
  have HSI : Hid (Upd [] w0 wb) := HSI.out.trans' hXb (fun k hm hl => by have := List.mem_singleton.1 hm; have := HCW0.out; omega)
  have HU9 : Hid (Upd [bb, bm] w wb) := HU9.out.trans' hXb (fun k hm hl => by have := List.mem_singleton.1 hm; have := HCW.out; omega)
  have HKC := Lib.hid kC'
  clear hXb hzb kC kC'
  go_wp2_with (fail)
  refine (roomy_ _ _ mb (by rw [← HN0.out] at HV ⊢; exact HV.out.upd0 HSI.out) (by rw [HN0.out]; exact HB3.out)).mono ?_
  rintro e wc ⟨vq, rfl, hOc, hUc⟩
  have HOc := Lib.hid hOc
  have HK6 := Lib.hid (hUc.heap HK6.out (by simp))
  have HKC := Lib.hid (hUc.heap HKC.out (by simp))
  have HBG := Lib.hid (HBG.out.upd0 hUc)
  have HO9 := Lib.hid (HO9.out.upd0 hUc)
  have HRW9 := Lib.hid (HRW9.out.upd0 hUc)
  have HSI := Lib.hid (HSI.out.trans hUc)
  have HU9 := Lib.hid (HU9.out.trans0 hUc)
  clear hOc hUc c5
  go_wp2_with (fail)
  refine (same24 _ _ _ (room24 mb) (room24 mb) HO9.out.rd HOc.out.rd (by rw [room24_length, HN0.out]; have := HB3.out; omega) (by rw [room24_length, HN0.out]; have := HB3.out; omega)).mono ?_
  rintro e wd ⟨rfl, hUd⟩
  have heq : (room24 mb == room24 mb) = true := by simp
  rw [heq]
  have HK6 := Lib.hid (hUd.heap HK6.out (by simp))
  have HKC := Lib.hid (hUd.heap HKC.out (by simp))
  have HBG := Lib.hid (HBG.out.upd0 hUd)
  have HO9 := Lib.hid (HO9.out.upd0 hUd)
  have HRW9 := Lib.hid (HRW9.out.upd0 hUd)
  have HSI := Lib.hid (HSI.out.trans hUd)
  have HU9 := Lib.hid (HU9.out.trans0 hUd)
  have HGD : Hid (∃ C fr', wd.heap[g]? = some (.cells C 5 fr')) := own_type HO9.out rfl
  have HGB : Hid (∀ e ∈ (es ++ [⟨(last : Int) + 1, fr, to, v8, mb⟩]), e.v.ownBlock ≠ some g) := fun e he hk => by
    rcases List.mem_append.1 he with he | he
    · have h1 := ((H.out.bag.rows e he).lt g hk).2
      have := HGW.out
      have := HU3.out.size
      omega
    · rw [List.mem_singleton.1 he] at hk
      have h1 := HV8.out g hk
      have h2 := (HO7.out.lt g rfl).2
      omega
  have hn64 : ((n : Int) + 64) ≤ 3064 := by omega
  clear hUd heq
  go_wp2_with (fail)
  go_loopw [16] (fun iv wr => ∃ (i : Nat) (l : List (BitVec 8)), iv = .int .i64 i ∧ i ≤ n + 64 ∧ l.length = n + 64 ∧ OwnB wr w3.heap.size (.slice (some ⟨g, 0, none⟩) (n + 64) rc) l ∧ Upd [g] wd wr) (fun iv _ => n + 64 - (intOf iv).toNat)
  case atStart => exact ⟨0, room24 mb, rfl, Nat.zero_le _, by rw [room24_length, HN0.out], HO9.out, Upd.refl _ _⟩
  case round =>
    obtain ⟨i, l, rfl, hi, hl, hO, hU⟩ := hrel
    have HO := Lib.hid hO
    have HU := Lib.hid hU
    have HL := Lib.hid hl
    clear hO hU hl
    by_cases hlt : i < n + 64
    · have hli : (i : Int) < (n : Int) + 64 := by omega
      have hil : i < l.length := by rw [HL.out]; exact hlt
      have hc := OwnB.cell HO.out i hil
      have hf := OwnB.frozen HO.out i hil
      have HS := Lib.hid (OwnB.set HO.out i hil 7)
      have HUS : Hid (Upd [g] wd (wr.setCell ⟨g, i, none⟩ (U8 7))) := HU.out.setCell _ _ (fun _ => by simp)
      obtain ⟨y, hy⟩ : ∃ y, l[i] = y := ⟨_, rfl⟩
      rw [hy] at hc
      clear hy hil
      go_wp2_with (fail)
      go_roundw
      case rel => exact ⟨i + 1, l.set i 7, by go_num, by omega, by rw [List.length_set]; exact HL.out, HS.out, HUS.out⟩
      case measure => simp [intOf]; omega
    · have hli : ¬ (i : Int) < (n : Int) + 64 := by omega
      have h6g : b6 ≠ g := by obtain ⟨C, fr', h1⟩ := HGD.out; exact heap_ne HK6.out h1 (by decide)
      have hCg : bC ≠ g := by obtain ⟨C, fr', h1⟩ := HGD.out; exact heap_ne HKC.out h1 (by decide)
      have k6 := HU.out.heap HK6.out (fun hm => h6g (List.mem_singleton.1 hm))
      have kC := HU.out.heap HKC.out (fun hm => hCg (List.mem_singleton.1 hm))
      have HXX : Hid (ExAt wd w0 lo bb bm v9 (last + 1) (es ++ [⟨(last : Int) + 1, fr, to, v8, mb⟩]) (ks ++ [(Ent.mk id fr to (.slice MA n mc) mb).as ((last : Int) + 1)]) D8) := ⟨HBG.out, by rw [List.map_append, List.map_append, H.out.alike]; rfl, HRW9.out, by intro k hk; (rcases List.mem_append.1 hk with hk | hk; exact H.out.rd k hk; (rw [List.mem_singleton.1 hk]; exact HV.out)), HSI.out, H.out.low⟩
      have HLG : Hid (lo ≤ g ∨ True) := .inr trivial
      have HXY : Hid (ExAt wr w0 lo bb bm v9 (last + 1) (es ++ [⟨(last : Int) + 1, fr, to, v8, mb⟩]) (ks ++ [(Ent.mk id fr to (.slice MA n mc) mb).as ((last : Int) + 1)]) D8) := HXX.out.bytes HU.out (fun k hm => by
        rw [List.mem_singleton.1 hm]
        exact ⟨by have := HGW.out; have := HU3.out.size; have := H.out.bag.low; have := lt_of_heap H.out.bag.cells; omega, HGD.out, HGB.out⟩)
      have HUZ : Hid (Upd [bb, bm] w wr) := HU9.out.trans' HU.out (fun k hm hl => by have := List.mem_singleton.1 hm; have := HGW.out; have := HU3.out.size; omega)
      clear hlt h6g hCg
      go_wp2_with (first
        | (with_reducible refine arm_load (by with_unfolding_all exact rfl) kC Try.underlying44 (by with_unfolding_all exact rfl) hs9 ?_)
        | (with_reducible refine arm_store (by with_unfolding_all exact rfl) (by with_unfolding_all exact rfl) k6 hs9 (by with_unfolding_all exact rfl) ho9 ?_))
      intro wz kz hXz hzz
      have HTZ : Hid (∀ {k : Nat} {C : Array Value} {T : TypeId} {fr' : Nat × Nat}, wr.heap[k]? = some (.cells C T fr') → T ≠ 44 → k ≠ b6) := fun {k C T fr'} h1 h2 => heap_ne h1 k6 h2
      have HXZ : Hid (ExAt wz w0 lo bb bm v9 (last + 1) (es ++ [⟨(last : Int) + 1, fr, to, v8, mb⟩]) (ks ++ [(Ent.mk id fr to (.slice MA n mc) mb).as ((last : Int) + 1)]) D8) := ⟨HXY.out.bag.upd hXz (fun hm => HTZ.out HXY.out.bag.cells (by decide) (List.mem_singleton.1 hm)) (fun hm => map_ne HXY.out.bag.map k6 (List.mem_singleton.1 hm)) (fun e he k hk hm => by obtain ⟨C, fr', h3⟩ := own_type (HXY.out.bag.rows e he) hk; exact HTZ.out h3 (by decide) (List.mem_singleton.1 hm)), HXY.out.alike, HXY.out.row.upd hXz (fun k hk hm => by obtain ⟨C, fr', h3⟩ := own_type HXY.out.row.2 hk; exact HTZ.out h3 (by decide) (List.mem_singleton.1 hm)), HXY.out.rd, HXY.out.since.trans' hXz (fun k hm hl => by have := List.mem_singleton.1 hm; have := HW6.out; have := H.out.since.size; omega), HXY.out.low⟩
      have HUW : Hid (Upd [bb, bm] w wz) := HUZ.out.trans' hXz (fun k hm hl => by have := List.mem_singleton.1 hm; have := HW6.out; omega)
      clear hXz hzz k6 kC
      go_wp2_with (fail)
      refine bodyPost_ret (results_agg_tmp rfl _ _ b6 44 _ (0, 0) _ rfl kz Try.underlying44 rfl hs9 rfl) rfl ?_
      exact ⟨v9, (last + 1), _, _, _, rfl, HXZ.out, by omega, fun x hx => (List.mem_append.1 hx).imp (fun h => h) (fun h k hk => by rw [List.mem_singleton.1 h] at hk; have := HV8.out k hk; have := HU7.out.size; omega), HUW.out⟩
end Go.Proofs.Ytjeddokenpkpnaa
