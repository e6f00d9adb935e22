/-
  From readings to values: arrays of words by value, and package-level tables of words.
-/
import Derived.Test.YtjeddokenpkpnaaMem
import Derived.ProofKit
import Derived.LaidMore
import Derived.OpenShut
namespace Go.Proofs.Ytjeddokenpkpnaa
open Go Go.RowKit Go.ChangeShapes Go.WideShapes
section
variable {H : Type} {enc : TypeId × Value → H} {P : Program} {w : World} {base : Nat} {spare : Nat → Bool} {held : Bool}
/-- the cells of an array of integers, read cell by cell -/
theorem trod_ints {T e n fuel : Nat} {k : IntKind} {cs : List Value} {x : DataW H × List MemPlace} (hT : P.underlying T = some (.array n e)) (he : P.underlying e = some (.int k)) (hce : P.cellsOf e = 1)
    (hlen : P.cellsOf T = n) (h : DataW.trod enc P w base spare held fuel T cs = some x) :
    ∃ ns : List Int, cs = ns.map (Value.int k) ∧ ns.length = n ∧ (∀ x ∈ ns, (Lit.int k x).wf = true) ∧ x.1 = .agg (ns.map fun i => .lit (.int k i)) := by
  obtain ⟨xs, m, rfl, rfl, hcl, hxl, hel⟩ := DataW.trod_array hT h
  rw [hlen] at hcl
  simp only [hce, Nat.mul_one] at hel
  have h1 : ∀ i, i < n → ∃ a : Int, cs[i]? = some (.int k a) ∧ xs[i]? = some (.lit (.int k a), []) ∧ (Lit.int k a).wf = true := by
    intro i hi
    have h2 := hel i hi
    have hxi : xs[i]? = some (xs[i]'(by omega)) := List.getElem?_eq_getElem _
    rw [hxi] at h2
    obtain ⟨a, e1, e2, e3⟩ := DataW.trod_int he h2
    refine ⟨a, ?_, by rw [hxi, e2], e3⟩
    have : ((cs.drop i).take 1)[0]? = some (.int k a) := by rw [e1]; rfl
    simpa [List.getElem?_take, List.getElem?_drop] using this
  obtain ⟨ns, hns⟩ : ∃ ns : List Int, ns = cs.map (fun v => match v with | .int _ a => a | _ => 0) := ⟨_, rfl⟩
  have hnl : ns.length = n := by rw [hns]; simp [hcl]
  refine ⟨ns, ?_, hnl, ?_, ?_⟩
  · apply List.ext_getElem?
    intro i
    by_cases hi : i < n
    · obtain ⟨a, ha, _, _⟩ := h1 i hi
      rw [List.getElem?_map, hns, List.getElem?_map, ha]; rfl
    · rw [List.getElem?_eq_none (by omega), List.getElem?_eq_none (by simp; omega)]
  · intro x hx
    obtain ⟨i, hi, rfl⟩ := List.mem_iff_getElem.1 hx
    obtain ⟨a, ha, _, hw⟩ := h1 i (by omega)
    have : ns[i]? = some a := by rw [hns, List.getElem?_map, ha]; rfl
    rw [List.getElem?_eq_getElem hi] at this
    rw [Option.some.inj this]; exact hw
  · show DataW.agg _ = DataW.agg _
    congr 1
    apply List.ext_getElem?
    intro i
    by_cases hi : i < n
    · obtain ⟨a, ha, hxa, _⟩ := h1 i hi
      rw [List.getElem?_map, List.getElem?_map, hxa, hns, List.getElem?_map, ha]; rfl
    · rw [List.getElem?_eq_none (by simp; omega), List.getElem?_eq_none (by simp; omega)]

theorem words_of_ints {n : Nat} {k : IntKind} (hk : k.bits = n) (hs : k.signed = false) (ns : List Int) (h : ∀ x ∈ ns, (Lit.int k x).wf = true) : ∃ l : List (BitVec n), ns.map (Value.int k) = l.map (fun x => Value.int k x.toNat) ∧ l.length = ns.length := by
  refine ⟨ns.map (BitVec.ofInt n), ?_, by simp⟩
  rw [List.map_map]
  apply List.map_congr_left
  intro x hx
  have hb : 0 ≤ x ∧ x < 2 ^ n := by
    have := h x hx
    simp [Lit.wf, IntKind.min, IntKind.max, hs, hk] at this
    omega
  show Value.int k x = Value.int k ((BitVec.ofInt n x).toNat : Int)
  rw [BitVec.toNat_ofInt]
  congr 1
  have e : ((2 ^ n : Nat) : Int) = 2 ^ n := by simp
  rw [e, Int.emod_eq_of_lt hb.1 hb.2]
  omega
/-- an array of words that comes by value -/
theorem open_words {T e n m b0 : Nat} {r : Reach} {k : IntKind} {v : Value} {d : DataW H} {p : List MemPlace} (hk : k.bits = m) (hs : k.signed = false) (hT : P.underlying T = some (.array n e)) (he : P.underlying e = some (.int k)) (hce : P.cellsOf e = 1)
    (hlen : P.cellsOf T = n) (hv : Value.okWide P w r b0 T v) (h : DataW.Trod enc P w base spare held T v d p) : ∃ l : List (BitVec m), v = .agg (l.map fun x => Value.int k x.toNat).toArray ∧ l.length = n := by
  simp only [Value.okWide, hT] at hv
  obtain ⟨cs, rfl, _, _⟩ := hv
  obtain ⟨fuel, hf⟩ := h
  obtain ⟨ns, hcs, hnl, hw, _⟩ := trod_ints hT he hce hlen hf
  obtain ⟨l, hl, hll⟩ := words_of_ints hk hs ns hw
  refine ⟨l, ?_, by omega⟩
  congr 1
  apply Array.ext'
  rw [← hl]
  simpa [Value.cells] using hcs
/-- a listed table of words: its block -/
theorem laid_words {T e n g fuel : Nat} {k : IntKind} {name : String} {cs : Array Value} {ks : List Int} {p : List MemPlace} (hg : P.globalNamed name = some g) (hv : w.var? P name = some cs)
    (hT : P.underlying T = some (.array n e)) (he : P.underlying e = some (.int k)) (hce : P.cellsOf e = 1) (hlen : P.cellsOf T = n)
    (h : DataW.trod enc P w base spare held fuel T cs.toList = some (.agg (ks.map fun i => .lit (.int k i)), p)) : ∃ t fr, w.heap[g]? = some (.cells (ks.map (Value.int k)).toArray t fr) := by
  obtain ⟨ns, hcs, _, _, hx⟩ := trod_ints hT he hce hlen h
  have hns : ns = ks := by
    have h1 : ns.map (fun i => (DataW.lit (.int k i) : DataW H)) = ks.map fun i => .lit (.int k i) := by
      have := hx.symm
      simpa using this
    have := congrArg (List.map fun d : DataW H => match d with | .lit (.int _ a) => a | _ => 0) h1
    simpa [List.map_map, Function.comp_def] using this
  subst hns
  have e1 : cs = (ns.map (Value.int k)).toArray := by apply Array.ext'; simpa using hcs
  simp only [World.var?, hg, Option.bind_some] at hv
  split at hv
  · rename_i c t fr hq
    obtain rfl := Option.some.inj hv
    exact ⟨t, fr, by rw [hq, e1]⟩
  · cases hv
theorem u64_of_wf {n : Int} (h : (Lit.int .u64 n).wf = true) : ∃ x : BitVec 64, Value.int .u64 n = U64 x := by
  obtain ⟨l, hl, hlen⟩ := words_of_ints (n := 64) (k := .u64) rfl rfl [n] (by simpa using h)
  match l, hlen with
  | [x], _ =>
    simp at hl
    exact ⟨x, by rw [hl]; rfl⟩
end
end Go.Proofs.Ytjeddokenpkpnaa
