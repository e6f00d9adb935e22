/-
  A script of steps comes in.
-/
import Derived.Test.YtjeddokenpkpnaaExE
import Derived.Test.YtjeddokenpkpnaaOpenA
namespace Go.Proofs.Ytjeddokenpkpnaa
open Go Go.RowKit Go.ChangeShapes Go.WideShapes
set_option maxRecDepth 100000 in
theorem open_stps {H : Type} {enc : TypeId × Value → H} {w : World} {b0 : Nat} {v : Value} {d : DataW H} {p : List MemPlace} (hv : Value.okWide Try.prog w .any b0 41 v) (h : DataW.Trod enc Try.prog w 0 (fun _ => true) true 41 v d p) :
    ∃ ss : List Stp, RdS w v ss ∧ ∀ s ∈ ss, wfI s.x ∧ wfI s.n := by
  obtain ⟨ss, h1, h2⟩ := open_sliceA (sz := 7) Stp.cells (fun w s => RdB w s.m.v s.m.b ∧ wfI s.x ∧ wfI s.n) Try.underlying41 (by kernel_rfl) (fun _ => rfl) (by decide)
    (fun fuel cs x hl hx => open_stp Try.underlying52 rfl rfl rfl rfl rfl rfl rfl rfl Try.underlying32 rfl rfl rfl rfl rfl rfl rfl rfl Try.underlying3 (by kernel_rfl) Try.underlying5 (by kernel_rfl) Try.underlying27 (by kernel_rfl) (by kernel_rfl) hl hx) hv h
  exact ⟨ss, ⟨h1, fun s hs => (h2 s hs).1⟩, fun s hs => (h2 s hs).2⟩
theorem law_exact_row (w : World) (v : Value) (ss : List Stp) (h : RdS w v ss) (hx : ∀ s ∈ ss, wfI s.x ∧ wfI s.n) :
    Calls Try.prog 4 #[v] w fun e w' => e = .returned (.bool true) ∧ Upd [] w w' := by
  obtain ⟨_, _, _, h4, h5⟩ := h.row.isSlice
  rw [List.length_map] at h4
  exact law_exact w v ss h (fun s hs => (hx s hs).1) (by omega) (fun s hs => by obtain ⟨_, _, _, h6, h7⟩ := (h.bodies s hs).isSlice; omega)
end Go.Proofs.Ytjeddokenpkpnaa
