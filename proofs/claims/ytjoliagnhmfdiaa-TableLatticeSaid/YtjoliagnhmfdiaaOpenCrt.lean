/-
  From readings to values: a certificate that comes in.
-/
import Derived.Test.YtjoliagnhmfdiaaOpenEnt
namespace Go.Proofs.Ytjoliagnhmfdiaa
open Go Go.RowKit Go.ChangeShapes Go.WideShapes
theorem open_cert {H : Type} {enc : TypeId × Value → H} {w : World} {b0 : Nat} {v : Value} {d : DataW H} {p : List MemPlace} (hv : Value.okWide Try.prog w .any b0 27 v) (h : DataW.Trod enc Try.prog w 0 (fun _ => true) true 27 v d p) : ∃ c : Crt, v = .agg (crtC c).toArray ∧ c.ok := by
  obtain ⟨cs, rfl, _⟩ := okWide_struct Try.underlying27 hv
  obtain ⟨fuel, hh⟩ := h
  obtain ⟨c, e, hc⟩ := open_crt hh
  refine ⟨c, ?_, hc⟩
  congr 1
  apply Array.ext'
  exact e
end Go.Proofs.Ytjoliagnhmfdiaa
