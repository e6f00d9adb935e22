/-
  From readings to values: an entry that comes in.
-/
import Derived.Test.YtjoliagnhmfdiaaOpen
import Derived.Test.YtjoliagnhmfdiaaEnt
import Derived.ChangeArms
namespace Go.Proofs.Ytjoliagnhmfdiaa
open Go Go.RowKit Go.ChangeShapes Go.WideShapes
section
variable {H : Type} {enc : TypeId × Value → H} {w : World}
theorem drop_split (cs : List Value) (o n : Nat) : cs.drop o = (cs.drop o).take n ++ cs.drop (o + n) := by
  rw [← List.drop_drop, List.take_append_drop]
theorem trod_row {T n fuel : Nat} {cs : List Value} {x : DataW H × List MemPlace} (hT : Try.prog.underlying T = some (.array n 5)) (hlen : Try.prog.cellsOf T = n) (h : DataW.trod enc Try.prog w 0 (fun _ => true) true fuel T cs = some x) : ∃ l : List (BitVec 8), cs = l.map U8 ∧ l.length = n := by
  obtain ⟨ns, hcs, hnl, hw, _⟩ := trod_ints hT Try.underlying5 (by kernel_rfl) hlen h
  obtain ⟨l, hl, hll⟩ := words_of_ints (n := 8) rfl rfl ns hw
  exact ⟨l, by rw [hcs, hl]; rfl, by omega⟩
theorem open_crt {fuel : Nat} {cs : List Value} {x : DataW H × List MemPlace} (h : DataW.trod enc Try.prog w 0 (fun _ => true) true fuel 27 cs = some x) : ∃ c : Crt, cs = crtC c ∧ c.ok := by
  obtain ⟨xs, n, rfl, _, hl, hlen, hf⟩ := DataW.trod_struct Try.underlying27 h
  have hlen' : xs.length = 5 := hlen
  have some' : ∀ i, i < 5 → ∃ y, xs[i]? = some y := fun i hi => ⟨_, List.getElem?_eq_getElem (by omega)⟩
  obtain ⟨y0, h0⟩ := some' 0 (by omega)
  obtain ⟨y1, h1⟩ := some' 1 (by omega)
  obtain ⟨y2, h2⟩ := some' 2 (by omega)
  obtain ⟨y3, h3⟩ := some' 3 (by omega)
  obtain ⟨y4, h4⟩ := some' 4 (by omega)
  have g0 := hf 0 _ rfl
  have g1 := hf 1 _ rfl
  have g2 := hf 2 _ rfl
  have g3 := hf 3 _ rfl
  have g4 := hf 4 _ rfl
  rw [h0] at g0
  rw [h1] at g1
  rw [h2] at g2
  rw [h3] at g3
  rw [h4] at g4
  obtain ⟨a0, e0, _⟩ := DataW.trod_int Try.underlying3 g0
  obtain ⟨a1, e1, _⟩ := DataW.trod_int Try.underlying3 g1
  obtain ⟨a2, e2, _⟩ := DataW.trod_int Try.underlying2 g2
  obtain ⟨l3, e3, q3⟩ := trod_row Try.underlying23 (by kernel_rfl) g3
  obtain ⟨l4, e4, q4⟩ := trod_row Try.underlying25 (by kernel_rfl) g4
  have c1 : Try.prog.cellsOf 3 = 1 := by kernel_rfl
  have c2 : Try.prog.cellsOf 2 = 1 := by kernel_rfl
  have c3 : Try.prog.cellsOf 23 = 32 := by kernel_rfl
  have c4 : Try.prog.cellsOf 25 = 64 := by kernel_rfl
  have cl : Try.prog.cellsOf 27 = 99 := by kernel_rfl
  change (cs.drop 0).take (Try.prog.cellsOf 3) = _ at e0
  rw [c1] at e0
  change (cs.drop 1).take (Try.prog.cellsOf 3) = _ at e1
  rw [c1] at e1
  change (cs.drop 2).take (Try.prog.cellsOf 2) = _ at e2
  rw [c2] at e2
  change (cs.drop 3).take (Try.prog.cellsOf 23) = _ at e3
  rw [c3] at e3
  change (cs.drop 35).take (Try.prog.cellsOf 25) = _ at e4
  rw [c4] at e4
  rw [cl] at hl
  refine ⟨⟨a0, a1, a2, l3, l4⟩, ?_, q3, q4⟩
  have s0 := drop_split cs 0 1
  have s1 := drop_split cs 1 1
  have s2 := drop_split cs 2 1
  have s3 := drop_split cs 3 32
  have s4 := drop_split cs 35 64
  rw [e0] at s0
  rw [e1] at s1
  rw [e2] at s2
  rw [e3] at s3
  rw [e4, List.drop_eq_nil_of_le (by omega : cs.length ≤ 35 + 64), List.append_nil] at s4
  rw [List.drop_zero] at s0
  rw [s0, s1, s2, s3, s4]
  rfl
theorem open_entry {b0 : Nat} {v : Value} {d : DataW H} {p : List MemPlace} (hv : Value.okWide Try.prog w .any b0 29 v) (h : DataW.Trod enc Try.prog w 0 (fun _ => true) true 29 v d p) : ∃ e : Ent, v = .agg (entC e).toArray ∧ e.ok := by
  obtain ⟨cs, rfl, _⟩ := okWide_struct Try.underlying29 hv
  obtain ⟨fuel, hh⟩ := h
  obtain ⟨xs, n, rfl, _, hl, hlen, hf⟩ := DataW.trod_struct Try.underlying29 hh
  have hlen' : xs.length = 7 := hlen
  have some' : ∀ i, i < 7 → ∃ y, xs[i]? = some y := fun i hi => ⟨_, List.getElem?_eq_getElem (by omega)⟩
  obtain ⟨y0, h0⟩ := some' 0 (by omega)
  obtain ⟨y1, h1⟩ := some' 1 (by omega)
  obtain ⟨y2, h2⟩ := some' 2 (by omega)
  obtain ⟨y3, h3⟩ := some' 3 (by omega)
  obtain ⟨y4, h4⟩ := some' 4 (by omega)
  obtain ⟨y5, h5⟩ := some' 5 (by omega)
  obtain ⟨y6, h6⟩ := some' 6 (by omega)
  have g0 := hf 0 _ rfl
  have g1 := hf 1 _ rfl
  have g2 := hf 2 _ rfl
  have g3 := hf 3 _ rfl
  have g4 := hf 4 _ rfl
  have g5 := hf 5 _ rfl
  have g6 := hf 6 _ rfl
  rw [h0] at g0
  rw [h1] at g1
  rw [h2] at g2
  rw [h3] at g3
  rw [h4] at g4
  rw [h5] at g5
  rw [h6] at g6
  obtain ⟨c, e0, q0⟩ := open_crt g0
  obtain ⟨a1, e1, _⟩ := DataW.trod_int Try.underlying3 g1
  obtain ⟨l2, e2, q2⟩ := trod_row Try.underlying23 (by kernel_rfl) g2
  obtain ⟨b3, e3, _⟩ := DataW.trod_bool Try.underlying4 g3
  obtain ⟨l4, e4, q4⟩ := trod_row Try.underlying25 (by kernel_rfl) g4
  obtain ⟨b5, e5, _⟩ := DataW.trod_bool Try.underlying4 g5
  obtain ⟨l6, e6, q6⟩ := trod_row Try.underlying25 (by kernel_rfl) g6
  have c1 : Try.prog.cellsOf 3 = 1 := by kernel_rfl
  have c2 : Try.prog.cellsOf 4 = 1 := by kernel_rfl
  have c3 : Try.prog.cellsOf 23 = 32 := by kernel_rfl
  have c4 : Try.prog.cellsOf 25 = 64 := by kernel_rfl
  have c5 : Try.prog.cellsOf 27 = 99 := by kernel_rfl
  have cl : Try.prog.cellsOf 29 = 262 := by kernel_rfl
  change (cs.toList.drop 0).take (Try.prog.cellsOf 27) = _ at e0
  rw [c5] at e0
  change (cs.toList.drop 99).take (Try.prog.cellsOf 3) = _ at e1
  rw [c1] at e1
  change (cs.toList.drop 100).take (Try.prog.cellsOf 23) = _ at e2
  rw [c3] at e2
  change (cs.toList.drop 132).take (Try.prog.cellsOf 4) = _ at e3
  rw [c2] at e3
  change (cs.toList.drop 133).take (Try.prog.cellsOf 25) = _ at e4
  rw [c4] at e4
  change (cs.toList.drop 197).take (Try.prog.cellsOf 4) = _ at e5
  rw [c2] at e5
  change (cs.toList.drop 198).take (Try.prog.cellsOf 25) = _ at e6
  rw [c4] at e6
  rw [cl] at hl
  refine ⟨⟨c, a1, l2, b3, l4, b5, l6⟩, ?_, q0, q2, q4, q6⟩
  congr 1
  apply Array.ext'
  change cs.toList.length = 262 at hl
  generalize cs.toList = ls at e0 e1 e2 e3 e4 e5 e6 hl
  have s0 := drop_split ls 0 99
  have s1 := drop_split ls 99 1
  have s2 := drop_split ls 100 32
  have s3 := drop_split ls 132 1
  have s4 := drop_split ls 133 64
  have s5 := drop_split ls 197 1
  have s6 := drop_split ls 198 64
  rw [e0] at s0
  rw [e1] at s1
  rw [e2] at s2
  rw [e3] at s3
  rw [e4] at s4
  rw [e5] at s5
  rw [e6, List.drop_eq_nil_of_le (by omega : ls.length ≤ 198 + 64), List.append_nil] at s6
  rw [List.drop_zero] at s0
  rw [s0, s1, s2, s3, s4, s5, s6]
  simp [entC, markC, sealC]
end
end Go.Proofs.Ytjoliagnhmfdiaa
