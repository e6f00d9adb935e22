/-
  Four pairs of sha512 in a row; begun, told.
-/
import Derived.Test.YtghdininkolanaaDoorTook512
namespace Go.Proofs.YtghdininkolanaaDoor
open Go Go.RowKit Go.Proofs
theorem glf_upd {S : List Nat} {w w' : World} (h : GlFirst512 w) (u : Upd S w w') (hn : 2 ∉ S) : GlFirst512 w' := by
  obtain ⟨T, fr, h⟩ := h
  exact ⟨T, fr, u.heap h hn⟩
structure QP where
  D : Nat
  a : Value
  m : List (BitVec 8)
def QP.cells (p : QP) : List Value := [.pointer (some ⟨p.D, 0, none⟩), p.a]
def qCells (qs : List QP) : List Value := qs.flatMap QP.cells
theorem qCells_length : ∀ (qs : List QP), (qCells qs).length = qs.length * 2
  | [] => rfl
  | p :: qs => by
    have h1 := qCells_length qs
    simp only [qCells, List.flatMap_cons, List.length_append, List.length_cons, QP.cells, List.length_nil] at h1 ⊢
    omega
theorem qCells_get0 : ∀ (qs : List QP) (i : Nat) (hi : i < qs.length), (qCells qs)[i * 2]? = some (.pointer (some ⟨qs[i].D, 0, none⟩))
  | p :: qs, 0, _ => rfl
  | p :: qs, i + 1, hi => by
    have h1 := qCells_get0 qs i (by simpa using hi)
    rw [show (i + 1) * 2 = i * 2 + 1 + 1 by omega]
    simpa [qCells, QP.cells] using h1
theorem qCells_get1 : ∀ (qs : List QP) (i : Nat) (hi : i < qs.length), (qCells qs)[i * 2 + 1]? = some qs[i].a
  | p :: qs, 0, _ => rfl
  | p :: qs, i + 1, hi => by
    have h1 := qCells_get1 qs i (by simpa using hi)
    rw [show (i + 1) * 2 + 1 = i * 2 + 1 + 1 + 1 by omega]
    simpa [qCells, QP.cells] using h1
theorem qCells_set1 : ∀ (qs : List QP) (k : Nat) (p : QP) (hk : k < qs.length), p.D = qs[k].D → (qCells qs).set (k * 2 + 1) p.a = qCells (qs.set k p)
  | q :: qs, 0, p, _, h => by simp only [List.getElem_cons_zero] at h; simp [qCells, QP.cells, h]
  | q :: qs, k + 1, p, hk, h => by
    have h1 := qCells_set1 qs k p (by simpa using hk) (by simpa using h)
    rw [show (k + 1) * 2 + 1 = k * 2 + 1 + 1 + 1 by omega]
    simpa [qCells, QP.cells] using h1
theorem qCells_set0 : ∀ (qs : List QP) (k : Nat) (p : QP) (hk : k < qs.length), p.a = qs[k].a → (qCells qs).set (k * 2) (.pointer (some ⟨p.D, 0, none⟩)) = qCells (qs.set k p)
  | q :: qs, 0, p, _, h => by simp only [List.getElem_cons_zero] at h; simp [qCells, QP.cells, h]
  | q :: qs, k + 1, p, hk, h => by
    have h1 := qCells_set0 qs k p (by simpa using hk) (by simpa using h)
    rw [show (k + 1) * 2 = k * 2 + 1 + 1 by omega]
    simpa [qCells, QP.cells] using h1
structure Four (w : World) (B gq : Nat) (qs : List QP) : Prop where
  len : qs.length = 4
  heap : w.heap[gq]? = some (.cells (qCells qs).toArray 38 (0, 0))
  old : B ≤ gq
  ok : ∀ i (h : i < qs.length), DigOf512 w qs[i].D qs[i].m ∧ B ≤ qs[i].D ∧ OwnB w B qs[i].a qs[i].m
  dd : ∀ i j (hi : i < qs.length) (hj : j < qs.length), i ≠ j → qs[i].D ≠ qs[j].D
theorem Four.upd0 {w w' : World} {B gq : Nat} {qs : List QP} (h : Four w B gq qs) (u : Upd [] w w') : Four w' B gq qs :=
  ⟨h.len, u.heap h.heap (by simp), h.old, fun i hi => ⟨(h.ok i hi).1.upd u (by simp), (h.ok i hi).2.1, (h.ok i hi).2.2.upd0 u⟩, h.dd⟩
theorem Four.set {w w' : World} {B gq k : Nat} {qs : List QP} {S : List Nat} (h : Four w B gq qs) (hk : k < qs.length) (u : Upd S w w') (hS : ∀ i ∈ S, i = gq ∨ i = qs[k].D) (p : QP) (heap : w'.heap[gq]? = some (.cells (qCells (qs.set k p)).toArray 38 (0, 0)))
    (ok : DigOf512 w' p.D p.m ∧ B ≤ p.D ∧ OwnB w' B p.a p.m) (hD : p.D = qs[k].D ∨ w.heap.size ≤ p.D) : Four w' B gq (qs.set k p) := by
  have get : ∀ i (hi : i < (qs.set k p).length), (i = k ∧ (qs.set k p)[i] = p) ∨ (i ≠ k ∧ ∃ hi' : i < qs.length, (qs.set k p)[i] = qs[i]) := fun i hi => by
    have hi' : i < qs.length := by simpa using hi
    by_cases hik : i = k
    · subst hik; exact .inl ⟨rfl, by simp⟩
    · exact .inr ⟨hik, hi', by rw [List.getElem_set_ne (fun e => hik e.symm)]⟩
  have hDl : ∀ i (hi : i < qs.length), qs[i].D < w.heap.size := fun i hi => (h.ok i hi).1.lt
  refine ⟨by simpa using h.len, heap, h.old, fun i hi => ?_, fun i j hi hj hij => ?_⟩
  · rcases get i hi with ⟨_, e⟩ | ⟨hik, hi', e⟩
    · rw [e]; exact ok
    · rw [e]
      obtain ⟨h1, h2, h3⟩ := h.ok i hi'
      refine ⟨h1.upd u (fun hm => ?_), h2, h3.upd u (fun b hb hm => ?_)⟩
      · rcases hS _ hm with e1 | e1
        · exact dig_pair3 h1 h.heap e1
        · exact h.dd i k hi' hk hik e1
      · rcases hS _ hm with e1 | e1
        · exact own_pair3 h3 h.heap (by rw [hb, e1])
        · exact own_dig512 h3 (h.ok k hk).1 (by rw [hb, e1])
  · rcases get i hi with ⟨ei, e1⟩ | ⟨hik, hi', e1⟩ <;> rcases get j hj with ⟨ej, e2⟩ | ⟨hjk, hj', e2⟩
    · omega
    · rw [e1, e2]
      rcases hD with hD | hD
      · rw [hD]; exact h.dd k j hk hj' (by omega)
      · have := hDl j hj'; omega
    · rw [e1, e2]
      rcases hD with hD | hD
      · rw [hD]; exact h.dd i k hi' hk (by omega)
      · have := hDl i hi'; omega
    · rw [e1, e2]; exact h.dd i j hi' hj' hij
def zpair3 : Array Value := #[.pointer none, .slice none 0 0]
theorem zero_pair3 (w : World) : (zeroValue 38).run Tryd.prog w = .ok (.agg zpair3) w := by kernel_rfl
theorem size_pair3 : (Tryd.prog.info? 38).map (·.size) = some 2 := by kernel_rfl
theorem built_pair3 (E : Nat) : Tryd.prog.built 38 [(0, .pointer (some ⟨E, 0, none⟩))] = some #[.pointer (some ⟨E, 0, none⟩), .slice none 0 0] := by kernel_rfl
theorem arm_build1 {P : Program} {ops : Array Oper} {rest : List Oper} {a : Act} {w : World} {Q : Exit → Act → World → Prop} {dst : Option Tmp} {ty type : TypeId} {pos : String} {after : Array Edge} {x0 : Operand} {v0 : Value} {cs : Array Value}
    (h0 : a.eval x0 = v0) (hf : P.built ty [(0, v0)] = some cs) (h : wpList P ops Q rest (a.put dst (.agg cs)) w) : wpList P ops Q (⟨dst, .build ty #[(0, x0)], type, pos, after, none⟩ :: rest) a w := by
  subst h0
  exact arm_build (by simpa using hf) h
set_option maxRecDepth 100000 in
theorem begun03 (w : World) (hf : GlFirst512 w) : Calls Tryd.prog 9 #[] w fun e w' => ∃ D, e = .returned (.agg #[.pointer (some ⟨D, 0, none⟩), .slice none 0 0]) ∧ w.heap.size ≤ D ∧ DigOf512 w' D [] ∧ Upd [] w w' := by
  go_enter Tryd.func9, Tryd.ntmps9
  go_wp2_with (with_reducible refine arm_alloc (zero_pair3 _) ?_)
  intro b1 w1 hb1 k1 hU1 hz1
  change w1.heap[b1]? = some (.cells zpair3 38 (0, 0)) at k1
  go_wp2_with (fail)
  refine (newof512 _ (glf_upd hf hU1 (by simp))).mono ?_
  rintro e w2 ⟨rfl, hD2, hU2⟩
  obtain ⟨D, hD⟩ : ∃ D, w1.heap.size = D := ⟨_, rfl⟩
  rw [hD] at hD2 ⊢
  have HDl : Hid (w.heap.size ≤ D) := by show w.heap.size ≤ D; have := hU1.size; omega
  have k2 := hU2.heap k1 (by simp)
  have hV2 := hU1.trans hU2
  have hbt := built_pair3 D
  have hs2 : (Tryd.prog.info? 38).map (·.size) = some (#[.pointer (some ⟨D, 0, none⟩), .slice none 0 0] : Array Value).size := size_pair3
  have ho2 : zpair3.size = (#[.pointer (some ⟨D, 0, none⟩), .slice none 0 0] : Array Value).size := rfl
  have ha2 : (#[.pointer (some ⟨D, 0, none⟩), .slice none 0 0] : Array Value).all (·.oneCell') = true := by simp [Value.oneCell']
  have hbl : w.heap.size ≤ b1 := Nat.le_of_eq hb1
  have hne : D ≠ b1 := by have := lt_of_heap k1; omega
  have HD2 := Lib.hid hD2
  have HV2 := Lib.hid hV2
  clear k1 hU1 hz1 hb1 hU2 hD hD2 hV2
  go_wp2_with (first
    | (with_reducible refine arm_build1 (by with_unfolding_all exact rfl) hbt ?_)
    | (with_reducible refine arm_store (by with_unfolding_all exact rfl) (by with_unfolding_all exact rfl) k2 hs2 ho2 ha2 ?_))
  intro w3 k3 hX3 hz3
  go_wp2_with (fail)
  refine bodyPost_ret (v := .agg #[.pointer (some ⟨D, 0, none⟩), .slice none 0 0]) (results_cell_row rfl _ _ b1 38 _ (0, 0) _ rfl k3 Tryd.underlying38 rfl hs2) rfl ⟨D, rfl, HDl.out, HD2.out.upd hX3 (fun hm => hne (List.mem_singleton.1 hm)), HV2.out.trans' hX3 (fun i hm hl => by have := List.mem_singleton.1 hm; omega)⟩
set_option maxRecDepth 100000 in
set_option maxHeartbeats 6400000 in
theorem told03 (w : World) (gq r D ca : Nat) (Aa : Option Addr) (C : Array Value) (m : List (BitVec 8)) (hh : w.heap[gq]? = some (.cells C 38 (0, 0))) (hc0 : C[r * 2]? = some (.pointer (some ⟨D, 0, none⟩))) (hc1 : C[r * 2 + 1]? = some (.slice Aa m.length ca))
    (hD : DigOf512 w D m) (hR : RdB w (.slice Aa m.length ca) m) (hm : m.length ≤ 200000) (hg : Gl512 w) (h3 : Gl3 w) (hf3 : GlFirst3 w) :
    Calls Tryd.prog 16 #[.pointer (some ⟨gq, r * 2, none⟩)] w fun e w' => e = .returned (.bool true) ∧ Upd [] w w' := by
  obtain ⟨H, hH⟩ : ∃ H, sha512 m = H := ⟨_, rfl⟩
  have hHl : H.length = 64 := by rw [← hH]; exact sha512_length _
  have HS1 : Hid (∀ W, Upd [] w W → Calls Tryd.prog 11 #[.pointer (some ⟨D, 0, none⟩)] W fun e w' => e = .returned (.agg (H.map U8).toArray) ∧ Upd [] W w') := fun W hW => by
    rw [← hH]; exact digsum512 W D m (hD.upd hW (by simp)) (hg.upd hW (by simp))
  have HS2 : Hid (∀ W, Upd [] w W → Calls Tryd.prog 12 #[.slice Aa m.length ca] W fun e w' => e = .returned (.agg (H.map U8).toArray) ∧ Upd [] W w') := fun W hW => by
    rw [← hH]; exact refsum512 W _ m (hR.upd0 hW) (by omega) (h3.upd hW (by simp)) (hf3.upd hW (by simp))
  have HS3 : Hid (∀ W, Upd [] w W → Calls Tryd.prog 13 #[.pointer (some ⟨D, 0, none⟩)] W fun e w' => e = .returned (U64 (BitVec.ofInt 64 (m.length : Int))) ∧ Upd [] W w') := fun W hW => by
    rw [ofInt_nat]
    exact (lenof512 W D m (hD.upd hW (by simp))).mono (fun e w' h => ⟨h.1, by rw [← h.2]; exact Upd.refl _ _⟩)
  have hq := eql_w64 H H hHl hHl
  rw [show (H == H) = true by simp] at hq
  have hgd := guard_w64
  have HQ0 : Hid (∀ W, Upd [] w W → W.cell? ⟨gq, r * 2, none⟩ = some (.pointer (some ⟨D, 0, none⟩))) := fun W hW => by
    rw [cell_of_row _ _ _ _ _ _ (hW.heap hh (by simp))]; exact hc0
  have HQ1 : Hid (∀ W, Upd [] w W → W.cell? ⟨gq, r * 2 + 1, none⟩ = some (.slice Aa m.length ca)) := fun W hW => by
    rw [cell_of_row _ _ _ _ _ _ (hW.heap hh (by simp))]; exact hc1
  obtain ⟨cH, hcH⟩ : ∃ c, (H.map U8).toArray = c := ⟨_, rfl⟩
  rw [hcH] at HS1 HS2 hq
  clear hcH hHl hH hD hR hm hg hh hc0 hc1 h3 hf3
  go_enter Tryd.func16, Tryd.ntmps16
  go_upto_region 1 with (fail)
  try go_simp
  refine wp_region_quiet_all (Upd [] w) (by kernel_rfl) (by kernel_rfl) (Upd.refl _ _).drew ?_
  refine wpQuiet_step (fun K hK => ?_)
  go_simp
  refine ⟨_, fun _ _ => rfl, hK _ ?_⟩
  clear hK K
  repeat (first
    | go_big_quiet_skip
    | (refine wpQuiet_valK rfl (quiet_of_yields (yields_cell (p := ⟨gq, r * 2, none⟩) rfl HQ0.out Tryd.underlying36 rfl)) (fun K hK => ?_); go_simp; refine hK _ ?_; clear hK K)
    | (refine wpQuiet_valK rfl (quiet_of_yields (yields_cell (p := ⟨gq, r * 2 + 1, none⟩) rfl HQ1.out Tryd.underlying25 rfl)) (fun K hK => ?_); go_simp; refine hK _ ?_; clear hK K)
    | go_big_quiet_step ((intro hw2; first
      | rfl
      | ((with_reducible refine (HS1.out _ hw2).mono ?_); exact fun e w' h => ⟨h.1, hw2.trans h.2⟩)
      | ((with_reducible refine (HS2.out _ hw2).mono ?_); exact fun e w' h => ⟨h.1, hw2.trans h.2⟩)
      | ((with_reducible refine (HS3.out _ hw2).mono ?_); exact fun e w' h => ⟨h.1, hw2.trans h.2⟩)
      )))
  refine wpQuiet_nil ?_
  intro w5 hU5
  go_wp2_with (fail)
  go_ret
  exact ⟨rfl, hU5⟩
end Go.Proofs.YtghdininkolanaaDoor
