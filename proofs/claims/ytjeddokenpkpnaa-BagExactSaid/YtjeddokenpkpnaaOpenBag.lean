/-
  From readings to values: slices of byte strings, of ints.
-/
import Derived.Test.YtjeddokenpkpnaaBagAny
import Derived.Test.YtjeddokenpkpnaaOpenRows
namespace Go.Proofs.Ytjeddokenpkpnaa
open Go Go.RowKit Go.ChangeShapes Go.WideShapes
theorem RdRows.bb {w : World} {v : Value} {ls : List (List (BitVec 8))} (h : RdRows w v ls) (N : Nat) (hN : ∀ l ∈ ls, l.length ≤ N) : ∃ ps, RdBB w v ps ∧ ps.length = ls.length ∧ (∀ p ∈ ps, p.2.length ≤ N) := by
  obtain ⟨A, c, rfl, h1, h2, h3⟩ := h
  by_cases h0 : 0 < ls.length
  · obtain ⟨g, p, rfl, hc⟩ := h3 h0
    obtain ⟨V, hV⟩ : ∃ V : Nat → Value, ∀ i (hi : i < ls.length), w.cell? ⟨g, p + i, none⟩ = some (V i) ∧ RdB w (V i) ls[i] :=
      ⟨fun i => if h : i < ls.length then Classical.choose (hc i h) else undef, fun i hi => by simp only [dif_pos hi]; exact Classical.choose_spec (hc i hi)⟩
    have hlen : ((List.range ls.length).map fun i => (V i, ls.getD i [])).length = ls.length := by simp
    have hfl : (((List.range ls.length).map fun i => (V i, ls.getD i [])).map fun p => [p.1]).flatten = (List.range ls.length).map V := by
      generalize List.range ls.length = r
      induction r with
      | nil => rfl
      | cons x r ih => simp only [List.map_cons, List.flatten_cons, ih, List.singleton_append]
    refine ⟨(List.range ls.length).map fun i => (V i, ls.getD i []), ⟨⟨fun x hx => ?_, some ⟨g, p, none⟩, c, by rw [List.length_map, hlen], by rw [List.length_map, hlen]; exact h1, h2, fun _ => ⟨g, p, rfl, ?_⟩⟩, fun q hq => ?_⟩, hlen, fun q hq => ?_⟩
    · obtain ⟨y, _, rfl⟩ := List.mem_map.1 hx; rfl
    · rw [hfl]
      intro j x hj
      obtain ⟨hlt, e⟩ := List.getElem?_eq_some_iff.1 hj
      have hjl : j < ls.length := by simpa using hlt
      rw [(hV j hjl).1, ← e]
      simp
    · obtain ⟨i, hi, rfl⟩ := List.mem_map.1 hq
      have hi' := List.mem_range.1 hi
      have := (hV i hi').2
      simpa [List.getD, List.getElem?_eq_getElem hi'] using this
    · obtain ⟨i, hi, rfl⟩ := List.mem_map.1 hq
      have hi' := List.mem_range.1 hi
      have := hN ls[i] (List.getElem_mem hi')
      simpa [List.getD, List.getElem?_eq_getElem hi'] using this
  · have hn : ls = [] := List.eq_nil_of_length_eq_zero (by omega)
    subst hn
    exact ⟨[], ⟨⟨by simp, A, c, rfl, h1, h2, fun h => by simp at h⟩, by simp⟩, rfl, by simp⟩
theorem law_any_row (w : World) (vb vo : Value) (ls : List (List (BitVec 8))) (os : List Int) (hb : RdRows w vb ls) (ho : RdI w vo os) (hwf : ∀ x ∈ os, wfI x) :
    Calls Try.prog 3 #[vb, vo] w fun e w' => e = .returned (.bool true) ∧ Upd [] w w' := by
  have hls : ∀ l ∈ ls, l.length ≤ maxLen := fun l hl => by
    obtain ⟨A, c, rfl, h1, h2, h3⟩ := hb
    obtain ⟨i, hi, rfl⟩ := List.getElem_of_mem hl
    obtain ⟨g, p, _, hc⟩ := h3 (by omega)
    obtain ⟨vi, _, hr⟩ := hc i hi
    obtain ⟨_, _, _, h4, h5⟩ := hr.isSlice
    omega
  obtain ⟨ps, h1, h2, h3⟩ := hb.bb maxLen hls
  obtain ⟨_, _, _, h4, h5⟩ := h1.row.isSlice
  obtain ⟨_, _, _, h6, h7⟩ := RdA.isSlice ho
  rw [List.length_map] at h4 h6
  exact law_any w vb vo ps os h1 ho hwf (by omega) (by omega) h3
section
variable {H : Type} {enc : TypeId × Value → H} {P : Program} {w : World}
theorem open_intsI {T e b0 : Nat} {v : Value} {d : DataW H} {p : List MemPlace} (hT : P.underlying T = some (.slice e)) (he : P.underlying e = some (.int .i64)) (hce : P.cellsOf e = 1)
    (hv : Value.okWide P w .any b0 T v) (h : DataW.Trod enc P w 0 (fun _ => true) true T v d p) : ∃ l : List Int, RdI w v l ∧ ∀ x ∈ l, wfI x := by
  obtain ⟨a1, len, cap, rfl⟩ := okWide_slice hT hv
  obtain ⟨fuel, hf⟩ := h
  rcases Deep.open_slice1 hT hce hf with ⟨hcs, hx⟩ | ⟨a, len', cap', m, n, V, D, Pl, hcs, _, hl, hm, hmm, hx, hel⟩
  · simp [Value.cells] at hcs
    obtain ⟨rfl, rfl, rfl⟩ := hcs
    exact ⟨[], RdA.nil w 1, by simp⟩
  · simp [Value.cells] at hcs
    obtain ⟨rfl, rfl, rfl⟩ := hcs
    simp only [if_true] at hmm
    have hget : ∀ i, i < len → ∃ b : Int, V i = .int .i64 b ∧ wfI b := fun i hi => by
      obtain ⟨b, h1, h2⟩ := DataW.trod_int he (hel i (by omega)).2
      exact ⟨b, by simpa using h1, h2.2⟩
    obtain ⟨L, hL⟩ : ∃ L : Nat → Int, ∀ i, i < len → V i = .int .i64 (L i) ∧ wfI (L i) :=
      ⟨fun i => if h : i < len then Classical.choose (hget i h) else 0, fun i hi => by simp only [dif_pos hi]; exact Classical.choose_spec (hget i hi)⟩
    have hll : ((List.range len).map L).length = len := by simp
    refine ⟨(List.range len).map L, ⟨fun x hx => ?_, some a, cap, by rw [List.length_map, hll], by rw [List.length_map, hll]; omega, hm, fun hp => ?_⟩, fun x hx => ?_⟩
    · obtain ⟨y, _, rfl⟩ := List.mem_map.1 hx; rfl
    · rw [List.length_map, hll] at hp
      obtain ⟨ab, ao, spot⟩ := a
      have hspot : spot = none := by simpa [Addr.add] using World.cell?_spot (hel 0 (by omega)).1
      subst hspot
      refine ⟨ab, ao, rfl, ?_⟩
      rw [icell_flat]
      intro i x hi
      obtain ⟨hlt, e⟩ := List.getElem?_eq_some_iff.1 hi
      have hil : i < len := by simpa using hlt
      have := (hel i (by omega)).1
      rw [Addr.add_lit] at this
      rw [this, (hL i hil).1, ← e]
      simp
    · obtain ⟨i, hi, rfl⟩ := List.mem_map.1 hx
      exact (hL i (List.mem_range.1 hi)).2
end
end Go.Proofs.Ytjeddokenpkpnaa
