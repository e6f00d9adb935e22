/-
  From readings to values: a slice of steps (a hash and a bool) that comes in.
-/
import Derived.Test.YtdfoffheolbokaaDoorOpenHashes
import Derived.ChangeSame
namespace Go.Proofs.YtdfoffheolbokaaDoor
open Go Go.RowKit Go.ChangeShapes Go.WideShapes
/-- a slice of steps that can be read -/
def RdT (w : World) (v : Value) (ls : List (H8 × Bool)) : Prop := (∀ x ∈ ls, x.1.length = 32) ∧ ∃ A c, v = .slice A ls.length c ∧ (0 < ls.length → ∃ g p, A = some ⟨g, p, none⟩ ∧ ∀ i (h : i < ls.length), w.rangeAt g (p + i * 33) (ls[i].1.map U8) ∧ w.cell? ⟨g, p + i * 33 + 32, none⟩ = some (.bool ls[i].2))
section
variable {H : Type} {enc : TypeId × Value → H} {P : Program} {w : World}
theorem open_steps {S E T b tb b0 : Nat} {f0 f1 : Field} {v : Value} {d : DataW H} {p : List MemPlace} (hS : P.underlying S = some (.slice E)) (hE : P.underlying E = some (.struct #[f0, f1])) (t0 : f0.type = T) (t1 : f1.type = tb) (o0 : f0.offset = 0) (o1 : f1.offset = 32)
    (hT : P.underlying T = some (.array 32 b)) (hb : P.underlying b = some (.int .u8)) (hcb : P.cellsOf b = 1) (hlen : P.cellsOf T = 32) (htb : P.underlying tb = some .bool) (hctb : P.cellsOf tb = 1) (hce : P.cellsOf E = 33)
    (hv : Value.okWide P w .any b0 S v) (h : DataW.Trod enc P w 0 (fun _ => true) true S v d p) : ∃ ls : List (H8 × Bool), RdT w v ls := by
  obtain ⟨a1, len, cap, rfl⟩ := okWide_slice hS hv
  obtain ⟨fuel, hf⟩ := h
  rcases Deep.open_slice hS hf with ⟨hcs, hx⟩ | ⟨a, len', cap', m, n, D, Pl, hcs, _, hl, hm, hmm, hx, hel⟩
  · simp [Value.cells] at hcs
    obtain ⟨rfl, rfl, rfl⟩ := hcs
    exact ⟨[], by simp, none, 0, rfl, fun h => by simp at h⟩
  · simp [Value.cells] at hcs
    obtain ⟨rfl, rfl, rfl⟩ := hcs
    simp only [if_true] at hmm
    rw [hce] at hel
    have hget : ∀ i, i < len → ∃ l : List (BitVec 8) × Bool, l.1.length = 32 ∧ (∀ j (hj : j < l.1.length), w.cell? (a.add (i * 33 + j)) = some (U8 l.1[j])) ∧ w.cell? (a.add (i * 33 + 32)) = some (.bool l.2) := fun i hi => by
      obtain ⟨cs', h1, h2⟩ := hel i (by omega)
      obtain ⟨y0, y1, k, _, hcl, h3, h4⟩ := trod_struct2 hE h2
      rw [t0, o0, hlen, List.drop_zero] at h3
      rw [t1, o1, hctb] at h4
      obtain ⟨l, hl1, hll⟩ := open_hash hT hb hcb hlen h3
      obtain ⟨bb, hb1, _⟩ := DataW.trod_bool htb h4
      obtain ⟨_, hl3, h5⟩ := World.cells?_some h1
      rw [hce] at hcl
      have g0 : ∀ j, j < 32 → cs'[j]? = (l.map U8)[j]? := fun j hj => by rw [← hl1, List.getElem?_take, if_pos hj]
      have g1 : cs'[32]? = some (.bool bb) := by
        have := congrArg (fun z : List Value => z[0]?) hb1
        simpa using this
      refine ⟨(l, bb), hll, fun j hj => ?_, ?_⟩
      · have hj' : j < 32 := by rw [← hll]; exact hj
        have h6 := h5 j (by omega)
        rw [Addr.add_add] at h6
        rw [h6, g0 j hj']
        rw [List.getElem?_map, List.getElem?_eq_getElem hj]
        rfl
      · have h6 := h5 32 (by omega)
        rw [Addr.add_add] at h6
        rw [h6, g1]
    obtain ⟨L, hL⟩ : ∃ L : Nat → List (BitVec 8) × Bool, ∀ i, i < len → (L i).1.length = 32 ∧ (∀ j (hj : j < (L i).1.length), w.cell? (a.add (i * 33 + j)) = some (U8 (L i).1[j])) ∧ w.cell? (a.add (i * 33 + 32)) = some (.bool (L i).2) :=
      ⟨fun i => if h : i < len then Classical.choose (hget i h) else ([], false), fun i hi => by simp only [dif_pos hi]; exact Classical.choose_spec (hget i hi)⟩
    have hll : ((List.range len).map L).length = len := by simp
    have hx32 : ∀ x ∈ (List.range len).map L, x.1.length = 32 := fun x hx => by
      obtain ⟨i, hi, rfl⟩ := List.mem_map.1 hx
      exact (hL i (List.mem_range.1 hi)).1
    refine ⟨(List.range len).map L, hx32, some a, cap, by rw [hll], fun hp => ?_⟩
    obtain ⟨ab, ao, spot⟩ := a
    have hspot : spot = none := by
      have := (hL 0 (by omega)).2.1 0 (by rw [(hL 0 (by omega)).1]; omega)
      simpa [Addr.add] using World.cell?_spot this
    subst hspot
    refine ⟨ab, ao, rfl, fun i hi => ?_⟩
    rw [hll] at hi
    have e : ((List.range len).map L)[i]'(by rw [hll]; exact hi) = L i := by simp
    rw [e]
    obtain ⟨h1, h2, h3⟩ := hL i hi
    refine ⟨fun j v hj => ?_, by rw [Addr.add_lit] at h3; rwa [show ao + (i * 33 + 32) = ao + i * 33 + 32 by omega] at h3⟩
    obtain ⟨hjl, hjv⟩ := List.getElem?_eq_some_iff.1 hj
    have hjl' : j < (L i).1.length := by simpa using hjl
    have := h2 j hjl'
    rw [Addr.add_lit] at this
    rw [show ao + i * 33 + j = ao + (i * 33 + j) by omega, this, ← hjv]
    simp
end
end Go.Proofs.YtdfoffheolbokaaDoor
