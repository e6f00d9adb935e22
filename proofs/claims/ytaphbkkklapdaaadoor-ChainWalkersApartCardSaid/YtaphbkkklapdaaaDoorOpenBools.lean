/-
  From readings to values: a slice of bools that comes in.
-/
import Derived.Test.YtaphbkkklapdaaaDoorLawApart15
import Derived.Test.YtaphbkkklapdaaaDoorOpen
import Derived.Deep.Slices
namespace Go.Proofs.YtaphbkkklapdaaaDoor
open Go Go.RowKit Go.ChangeShapes Go.WideShapes
section
variable {H : Type} {enc : TypeId × Value → H} {P : Program} {w : World}
theorem open_bools {T e b0 : Nat} {v : Value} {d : DataW H} {p : List MemPlace} (hT : P.underlying T = some (.slice e)) (he : P.underlying e = some .bool) (hce : P.cellsOf e = 1)
    (hv : Value.okWide P w .any b0 T v) (h : DataW.Trod enc P w 0 (fun _ => true) true T v d p) : ∃ ls : List Bool, RdL w v ls := by
  obtain ⟨a1, len, cap, rfl⟩ := okWide_slice hT hv
  obtain ⟨fuel, hf⟩ := h
  rcases Deep.open_slice1 hT hce hf with ⟨hcs, hx⟩ | ⟨a, len', cap', m, n, V, D, Pl, hcs, _, hl, hm, hmm, hx, hel⟩
  · simp [Value.cells] at hcs
    obtain ⟨rfl, rfl, rfl⟩ := hcs
    exact ⟨[], none, 0, rfl, fun h => by simp at h⟩
  · simp [Value.cells] at hcs
    obtain ⟨rfl, rfl, rfl⟩ := hcs
    simp only [if_true] at hmm
    have hget : ∀ i, i < len → ∃ b : Bool, V i = .bool b := fun i hi => by
      obtain ⟨b, h1, _⟩ := DataW.trod_bool he (hel i (by omega)).2
      exact ⟨b, by simpa using h1⟩
    obtain ⟨L, hL⟩ : ∃ L : Nat → Bool, ∀ i, i < len → V i = .bool (L i) :=
      ⟨fun i => if h : i < len then Classical.choose (hget i h) else false, fun i hi => by simp only [dif_pos hi]; exact Classical.choose_spec (hget i hi)⟩
    have hll : ((List.range len).map L).length = len := by simp
    refine ⟨(List.range len).map L, some a, cap, by rw [hll], fun hp => ?_⟩
    obtain ⟨ab, ao, spot⟩ := a
    have hspot : spot = none := by simpa [Addr.add] using World.cell?_spot (hel 0 (by rw [hll] at hp; omega)).1
    subst hspot
    refine ⟨ab, ao, rfl, fun i hi => ?_⟩
    rw [hll] at hi
    have := (hel i (by omega)).1
    rw [Addr.add_lit] at this
    rw [this, hL i hi]
    simp
end
end Go.Proofs.YtaphbkkklapdaaaDoor
