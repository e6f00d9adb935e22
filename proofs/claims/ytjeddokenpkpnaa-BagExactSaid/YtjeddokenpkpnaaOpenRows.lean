/-
  From readings to values: a slice of slices of bytes that comes in.
-/
import Derived.Test.YtjeddokenpkpnaaOpenBytes
import Derived.Deep.Slices
namespace Go.Proofs.Ytjeddokenpkpnaa
open Go Go.RowKit Go.ChangeShapes Go.WideShapes
/-- a slice of slices of bytes that can be read -/
def RdRows (w : World) (v : Value) (ls : List (List (BitVec 8))) : Prop := ∃ A c, v = .slice A ls.length c ∧ ls.length ≤ c ∧ c ≤ maxLen ∧
  (0 < ls.length → ∃ g p, A = some ⟨g, p, none⟩ ∧ ∀ i (h : i < ls.length), ∃ vi, w.cell? ⟨g, p + i, none⟩ = some vi ∧ RdB w vi ls[i])
theorem RdRows.upd0 {w w' : World} {v : Value} {ls : List (List (BitVec 8))} (h : RdRows w v ls) (u : Upd [] w w') : RdRows w' v ls := by
  obtain ⟨A, c, rfl, h1, h2, h3⟩ := h
  refine ⟨A, c, rfl, h1, h2, fun hp => ?_⟩
  obtain ⟨g, p, rfl, hc⟩ := h3 hp
  refine ⟨g, p, rfl, fun i hi => ?_⟩
  obtain ⟨vi, e1, e2⟩ := hc i hi
  exact ⟨vi, u.cell e1 (by simp), e2.upd0 u⟩
section
variable {H : Type} {enc : TypeId × Value → H} {P : Program} {w : World}
/-- all that a reading weighs is within the reach -/
def Within (P : Program) (t : TypeId) (d : DataW H) : Prop := ∀ n ∈ d.weights P t, n ≤ reachBytes
theorem within_of {ts : List TypeId} {ds : List (DataW H)} (h : (DataW.weightsEach P ts ds).all (· ≤ reachBytes) = true) {j : Nat} {t : TypeId} {d : DataW H} (ht : ts[j]? = some t) (hd : ds[j]? = some d) : Within P t d := fun n hn => by
  simpa using List.all_eq_true.1 h _ (DataW.weights_mem_each ht hd n hn)
theorem weightsAll_mem {t : TypeId} {d : DataW H} {l : List (DataW H)} (h : d ∈ l) : ∀ n ∈ d.weights P t, n ∈ DataW.weightsAll P t l := by
  induction l with
  | nil => cases h
  | cons x r ih =>
    intro n hn
    simp only [DataW.weightsAll, List.mem_append]
    rcases List.mem_cons.1 h with rfl | h
    · exact .inl hn
    · exact .inr (ih h n hn)
/-- a value that reads as a slice of bytes -/
theorem open_byte1 {T e fuel : Nat} {v : Value} {d : DataW H} {p : List MemPlace} (hT : P.underlying T = some (.slice e)) (he : P.underlying e = some (.int .u8)) (hce : P.cellsOf e = 1) (hbe : P.bytesOf e = 1)
    (hsz : Within P T d) (hf : DataW.trod enc P w 0 (fun _ => true) true fuel T [v] = some (d, p)) :
    ∃ l : List (BitVec 8), RdB w v l ∧ l.length ≤ 140737488351232 ∧ ((d = .nil ∧ l.length = 0) ∨ ∃ e s, d = .slice e s ∧ e.length = l.length) := by
  rcases open_ints hT he hce hf with ⟨hcs, hx⟩ | ⟨a, len, cap, zs, hcs, _, hl, hm, hz, hx, hcell, hwz⟩
  · simp only [Prod.mk.injEq, List.cons.injEq, and_true] at hx hcs
    obtain ⟨rfl, rfl⟩ := hx
    subst hcs
    exact ⟨[], RdB.nil w, by simp, .inl ⟨rfl, rfl⟩⟩
  · simp only [Prod.mk.injEq, List.cons.injEq, and_true] at hx hcs
    obtain ⟨rfl, rfl⟩ := hx
    subst hcs
    simp only [if_true] at hz
    have hlen : ((zs.take len).map fun n => BitVec.ofInt 8 n).length = len := by simp; omega
    have hs : ((lits (H := H) .u8 (zs.take len)).length + (lits (H := H) .u8 (zs.drop len)).length) * P.bytesOf e ≤ reachBytes := hsz _ (by simp [DataW.weights, hT])
    rw [hbe] at hs
    simp only [lits, List.length_map, List.length_take, List.length_drop, reachBytes] at hs
    refine ⟨(zs.take len).map fun n => BitVec.ofInt 8 n, ⟨some a, cap, by rw [hlen], by omega, hm, fun hp => ?_⟩, by omega, .inr ⟨_, _, rfl, by simp [lits]⟩⟩
    obtain ⟨ab, ao, spot⟩ := a
    have hspot : spot = none := by simpa [Addr.add] using World.cell?_spot (hcell 0 (by omega))
    subst hspot
    refine ⟨ab, ao, rfl, fun i hi => ?_⟩
    rw [hlen] at hi
    have hci := hcell i (by omega)
    rw [Addr.add_lit] at hci
    rw [hci]
    have hiz : i < zs.length := by omega
    have e1 : zs.getD i 0 = zs[i] := by simp [List.getD, List.getElem?_eq_getElem hiz]
    have hb := wf_u8 (hwz zs[i] (List.getElem_mem hiz))
    rw [e1]
    simp only [List.getElem_map, List.getElem_take, U8]
    congr 2
    rw [BitVec.toNat_ofInt]
    omega
theorem open_rows {S T e b0 : Nat} {v : Value} {d : DataW H} {p : List MemPlace} (hS : P.underlying S = some (.slice T)) (hcT : P.cellsOf T = 1) (hT : P.underlying T = some (.slice e)) (he : P.underlying e = some (.int .u8)) (hce : P.cellsOf e = 1) (hbe : P.bytesOf e = 1)
    {ts : List TypeId} {ds : List (DataW H)} (hsz : (DataW.weightsEach P ts ds).all (· ≤ reachBytes) = true) (j : Nat) (htj : ts[j]? = some S) (hdj : ds[j]? = some d)
    (hv : Value.okWide P w .any b0 S v) (h : DataW.Trod enc P w 0 (fun _ => true) true S v d p) : ∃ ls : List (List (BitVec 8)), RdRows w v ls ∧ ∀ l ∈ ls, l.length ≤ 140737488351232 := by
  have hW := within_of hsz htj hdj
  obtain ⟨a1, len, cap, rfl⟩ := okWide_slice hS hv
  obtain ⟨fuel, hf⟩ := h
  rcases Deep.open_slice1 hS hcT hf with ⟨hcs, hx⟩ | ⟨a, len', cap', m, n, V, D, Pl, hcs, _, hl, hm, hmm, hx, hel⟩
  · simp [Value.cells] at hcs
    obtain ⟨rfl, rfl, rfl⟩ := hcs
    exact ⟨[], ⟨none, 0, rfl, Nat.le_refl _, by simp [maxLen], fun h => by simp at h⟩, fun l hl => by cases hl⟩
  · simp [Value.cells] at hcs
    obtain ⟨rfl, rfl, rfl⟩ := hcs
    simp only [Prod.mk.injEq] at hx
    obtain ⟨rfl, rfl⟩ := hx
    simp only [if_true] at hmm
    have hget : ∀ i, i < len → ∃ l : List (BitVec 8), RdB w (V i) l ∧ l.length ≤ 140737488351232 := fun i hi => by
      have hsub : Within P T (D i) := fun q hq => hW q (by
        simp only [DataW.weights, hS, List.mem_cons, List.mem_append]
        exact .inr (.inl (weightsAll_mem (List.mem_map.2 ⟨i, List.mem_range.2 hi, rfl⟩) q hq)))
      obtain ⟨l, h1, h2, _⟩ := open_byte1 hT he hce hbe hsub (hel i (by omega)).2
      exact ⟨l, h1, h2⟩
    obtain ⟨L, hL⟩ : ∃ L : Nat → List (BitVec 8), ∀ i, i < len → RdB w (V i) (L i) ∧ (L i).length ≤ 140737488351232 :=
      ⟨fun i => if h : i < len then Classical.choose (hget i h) else [], fun i hi => by simp only [dif_pos hi]; exact Classical.choose_spec (hget i hi)⟩
    have hll : ((List.range len).map L).length = len := by simp
    refine ⟨(List.range len).map L, ⟨some a, cap, by rw [hll], by omega, hm, fun hp => ?_⟩, fun l hl => ?_⟩
    · obtain ⟨ab, ao, spot⟩ := a
      have hspot : spot = none := by simpa [Addr.add] using World.cell?_spot (hel 0 (by omega)).1
      subst hspot
      refine ⟨ab, ao, rfl, fun i hi => ⟨V i, ?_, ?_⟩⟩
      · have := (hel i (by omega)).1
        rwa [Addr.add_lit] at this
      · simp only [List.getElem_map, List.getElem_range]
        exact (hL i (by omega)).1
    · obtain ⟨i, hi, rfl⟩ := List.mem_map.1 hl
      exact (hL i (List.mem_range.1 hi)).2
end
end Go.Proofs.Ytjeddokenpkpnaa
