/-
  From readings to values: a slice of bytes that comes in.
-/
import Derived.Test.YtjeddokenpkpnaaOpen
import Derived.Test.YtjeddokenpkpnaaCopy
import Derived.ChangeSlices
import Derived.SizedLaws
namespace Go.Proofs.Ytjeddokenpkpnaa
open Go Go.RowKit Go.ChangeShapes Go.WideShapes
section
variable {H : Type} {enc : TypeId × Value → H} {P : Program} {w : World}
theorem wf_u8 {n : Int} (h : (Lit.int .u8 n).wf = true) : 0 ≤ n ∧ n < 256 := by
  simp [Lit.wf, IntKind.min, IntKind.max, IntKind.signed, IntKind.bits] at h
  omega
theorem open_bytes {T e b0 : Nat} {v : Value} {d : DataW H} {p : List MemPlace} (hT : P.underlying T = some (.slice e)) (he : P.underlying e = some (.int .u8)) (hce : P.cellsOf e = 1) (hbe : P.bytesOf e = 1)
    {ts : List TypeId} {ds : List (DataW H)} (hsz : (DataW.weightsEach P ts ds).all (· ≤ reachBytes) = true) (j : Nat) (htj : ts[j]? = some T) (hdj : ds[j]? = some d)
    (hv : Value.okWide P w .any b0 T v) (h : DataW.Trod enc P w 0 (fun _ => true) true T v d p) : ∃ l : List (BitVec 8), RdB w v l ∧ l.length ≤ 140737488351232 ∧ ((d = .nil ∧ l.length = 0) ∨ ∃ e s, d = .slice e s ∧ e.length = l.length) := by
  obtain ⟨a1, len, cap, rfl⟩ := okWide_slice hT hv
  obtain ⟨fuel, hf⟩ := h
  rcases open_ints hT he hce hf with ⟨hcs, hx⟩ | ⟨a, len', cap', zs, hcs, _, hl, hm, hz, hx, hcell, hwz⟩
  · simp [Value.cells] at hcs
    obtain ⟨rfl, rfl, rfl⟩ := hcs
    simp only [Prod.mk.injEq] at hx
    obtain ⟨rfl, rfl⟩ := hx
    exact ⟨[], RdB.nil w, by simp, .inl ⟨rfl, rfl⟩⟩
  · simp [Value.cells] at hcs
    obtain ⟨rfl, rfl, rfl⟩ := hcs
    simp only [Prod.mk.injEq] at hx
    obtain ⟨rfl, rfl⟩ := hx
    simp only [if_true] at hz
    have hlen : ((zs.take len).map fun n => BitVec.ofInt 8 n).length = len := by simp; omega
    have hs := sized_slice hsz htj hdj hT
    rw [hbe] at hs
    simp only [lits, List.length_map, List.length_take, List.length_drop, reachBytes] at hs
    refine ⟨(zs.take len).map fun n => BitVec.ofInt 8 n, ⟨some a, cap, by rw [hlen], by omega, hm, fun hp => ?_⟩, by omega, .inr ⟨_, _, rfl, by simp [lits]⟩⟩
    obtain ⟨ab, ao, spot⟩ := a
    have hspot : spot = none := by simpa [Addr.add] using World.cell?_spot (hcell 0 (by omega))
    subst hspot
    refine ⟨ab, ao, rfl, fun i hi => ?_⟩
    rw [hlen] at hi
    have hci := hcell i (by omega)
    rw [Addr.add_lit] at hci
    rw [hci]
    have hiz : i < zs.length := by omega
    have e1 : zs.getD i 0 = zs[i] := by simp [List.getD, List.getElem?_eq_getElem hiz]
    have hb := wf_u8 (hwz zs[i] (List.getElem_mem hiz))
    rw [e1]
    simp only [List.getElem_map, List.getElem_take, U8]
    congr 2
    rw [BitVec.toNat_ofInt]
    omega
end
end Go.Proofs.Ytjeddokenpkpnaa
