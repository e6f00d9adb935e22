/-
  From readings to values: a slice of hashes (arrays of 32 bytes) that comes in.
-/
import Derived.Test.YtdfoffheolbokaaDoorOpen
import Derived.Test.YtdfoffheolbokaaDoorHashes
import Derived.ChangeSlices
import Derived.Deep.Slices
namespace Go.Proofs.YtdfoffheolbokaaDoor
open Go Go.RowKit Go.ChangeShapes Go.WideShapes
section
variable {H : Type} {enc : TypeId × Value → H} {P : Program} {w : World}
theorem bytes_flat {g p : Nat} : ∀ (ls : List H8), (∀ x ∈ ls, x.length = 32) → (∀ i (h : i < ls.length), Bytes w g (p + 32 * i) ls[i]) → Bytes w g p ls.flatten
  | [], _, _ => fun i h => by simp at h
  | x :: r, hl, hb => by
    have h1 := hl x (by simp)
    have ih := bytes_flat (p := p + 32) r (fun y hy => hl y (by simp [hy])) (fun i h => by
      have := hb (i + 1) (by simpa using h)
      simp only [List.getElem_cons_succ] at this
      rwa [show p + 32 * (i + 1) = p + 32 + 32 * i by omega] at this)
    have h0 := hb 0 (by simp)
    simp only [Nat.mul_zero, Nat.add_zero, List.getElem_cons_zero] at h0
    intro i hi
    rw [List.flatten_cons] at hi
    by_cases h : i < 32
    · have := h0 i (by omega)
      rw [this]
      simp only [List.flatten_cons]
      rw [List.getElem_append_left (by omega)]
    · have := ih (i - 32) (by rw [List.length_append] at hi; omega)
      rw [show p + 32 + (i - 32) = p + i by omega] at this
      rw [this]
      simp only [List.flatten_cons]
      rw [List.getElem_append_right (by omega)]
      congr 2
      simp [h1]
/-- the cells of an array of 32 bytes -/
theorem open_hash {T b fuel : Nat} {cs : List Value} {x : DataW H × List MemPlace} (hT : P.underlying T = some (.array 32 b)) (hb : P.underlying b = some (.int .u8)) (hcb : P.cellsOf b = 1) (hlen : P.cellsOf T = 32)
    (h : DataW.trod enc P w 0 (fun _ => true) true fuel T cs = some x) : ∃ l : List (BitVec 8), cs = l.map U8 ∧ l.length = 32 := by
  obtain ⟨ns, hcs, hnl, hw, _⟩ := trod_ints hT hb hcb hlen h
  obtain ⟨l, hl, hll⟩ := words_of_ints (n := 8) rfl rfl ns hw
  exact ⟨l, by rw [hcs, hl]; rfl, by omega⟩
theorem open_hashes {S T b b0 : Nat} {v : Value} {d : DataW H} {p : List MemPlace} (hS : P.underlying S = some (.slice T)) (hT : P.underlying T = some (.array 32 b)) (hb : P.underlying b = some (.int .u8)) (hcb : P.cellsOf b = 1) (hlen : P.cellsOf T = 32)
    (hv : Value.okWide P w .any b0 S v) (h : DataW.Trod enc P w 0 (fun _ => true) true S v d p) : ∃ ls : List H8, RdH w v ls := by
  obtain ⟨a1, len, cap, rfl⟩ := okWide_slice hS hv
  obtain ⟨fuel, hf⟩ := h
  rcases Deep.open_slice hS hf with ⟨hcs, hx⟩ | ⟨a, len', cap', m, n, D, Pl, hcs, _, hl, hm, hmm, hx, hel⟩
  · simp [Value.cells] at hcs
    obtain ⟨rfl, rfl, rfl⟩ := hcs
    exact ⟨[], RdH.nil w⟩
  · simp [Value.cells] at hcs
    obtain ⟨rfl, rfl, rfl⟩ := hcs
    simp only [if_true] at hmm
    rw [hlen] at hel
    have hget : ∀ i, i < len → ∃ l : List (BitVec 8), l.length = 32 ∧ ∀ j (hj : j < l.length), w.cell? (a.add (i * 32 + j)) = some (U8 l[j]) := fun i hi => by
      obtain ⟨cs', h1, h2⟩ := hel i (by omega)
      obtain ⟨l, rfl, hll⟩ := open_hash hT hb hcb hlen h2
      obtain ⟨_, _, h3⟩ := World.cells?_some h1
      refine ⟨l, hll, fun j hj => ?_⟩
      have := h3 j (by omega)
      rw [Addr.add_add] at this
      rw [this]; simp [hj]
    obtain ⟨L, hL⟩ : ∃ L : Nat → List (BitVec 8), ∀ i, i < len → (L i).length = 32 ∧ ∀ j (hj : j < (L i).length), w.cell? (a.add (i * 32 + j)) = some (U8 (L i)[j]) :=
      ⟨fun i => if h : i < len then Classical.choose (hget i h) else [], fun i hi => by simp only [dif_pos hi]; exact Classical.choose_spec (hget i hi)⟩
    have hll : ((List.range len).map L).length = len := by simp
    have hx32 : ∀ x ∈ (List.range len).map L, x.length = 32 := fun x hx => by
      obtain ⟨i, hi, rfl⟩ := List.mem_map.1 hx
      exact (hL i (List.mem_range.1 hi)).1
    refine ⟨(List.range len).map L, hx32, some a, cap, by rw [hll], by omega, hm, fun hp => ?_⟩
    obtain ⟨ab, ao, spot⟩ := a
    have hspot : spot = none := by
      have := (hL 0 (by omega)).2 0 (by rw [(hL 0 (by omega)).1]; omega)
      simpa [Addr.add] using World.cell?_spot this
    subst hspot
    refine ⟨ab, ao, rfl, bytes_flat _ hx32 fun i hi j hj => ?_⟩
    rw [hll] at hi
    have := (hL i hi).2 j (by simpa using hj)
    rw [Addr.add_lit] at this
    rw [show ao + 32 * i + j = ao + (i * 32 + j) by omega, this]
    simp
end
end Go.Proofs.YtdfoffheolbokaaDoor
