/-
  '==' and '!=' between arrays of words.
-/
import Derived.Test.YtaphbkkklapdaaaDoorMem
import Derived.ChangeKeysEq
namespace Go.Proofs.YtaphbkkklapdaaaDoor
open Go Go.RowKit
section
variable {P : Program} (w : World)
theorem run_eqGuard_agg (op : BinOp) (T : TypeId) (ox oy : Operand) (A B : Array Value) (hg : P.eqGuardType P.depth T = false) : (eqGuard op T ox oy (.agg A) (.agg B)).run P w = .ok () w := by
  cases op <;> simp [eqGuard, Sem.run_bind, run_program, hg]
theorem run_eqItems_words {m e : Nat} {k : IntKind} (d : Nat) (he : P.underlying e = some (.int k)) (xs ys : List (BitVec m)) : ∀ is : List Nat, (∀ i ∈ is, i < xs.length ∧ i < ys.length) →
    (Op.eqItems (d + 1) e 1 (xs.map fun x => Value.int k x.toNat).toArray (ys.map fun x => Value.int k x.toNat).toArray is).run P w = .ok (is.all fun i => xs[i]? == ys[i]?) w
  | [], _ => by simp [Op.eqItems]
  | i :: is, h => by
    obtain ⟨h1, h2⟩ := h i (by simp)
    have hagg : (isAgg e).run P w = .ok false w := by
      unfold isAgg
      rw [Sem.run_bind, run_underlying he w]
      simp
    have p1 : (part e (xs.map fun x => Value.int k x.toNat).toArray (i * 1)).run P w = .ok (.int k xs[i].toNat) w := by
      simp [part, Sem.run_bind, hagg, h1]
    have p2 : (part e (ys.map fun x => Value.int k x.toNat).toArray (i * 1)).run P w = .ok (.int k ys[i].toNat) w := by
      simp [part, Sem.run_bind, hagg, h2]
    have p3 := run_equalIn_int (P := P) w d e k k xs[i].toNat ys[i].toNat he
    have ih := run_eqItems_words d he xs ys is (fun j hj => h j (by simp [hj]))
    simp only [Op.eqItems, Sem.run_bind, p1, p2, p3, Result.andThen_ok, List.all_cons, List.getElem?_eq_getElem h1, List.getElem?_eq_getElem h2]
    have e1 : ((xs[i].toNat : Int) == ys[i].toNat) = (some xs[i] == some ys[i]) := by rw [beq_toNat]; rfl
    rw [e1]
    cases (some xs[i] == some ys[i])
    · simp
    · simpa using ih
theorem all_range_eq {α : Type} [BEq α] [LawfulBEq α] (xs ys : List α) (n : Nat) (hx : xs.length = n) (hy : ys.length = n) : ((List.range n).all fun i => xs[i]? == ys[i]?) = (xs == ys) := by
  rw [Bool.eq_iff_iff, List.all_eq_true, beq_iff_eq]
  constructor
  · intro h
    apply List.ext_getElem?
    intro i
    by_cases hi : i < n
    · exact beq_iff_eq.1 (h i (List.mem_range.2 hi))
    · rw [List.getElem?_eq_none (by omega), List.getElem?_eq_none (by omega)]
  · intro h i _; rw [h]; simp
theorem run_equal_words {m e n T : Nat} {k : IntKind} {i : TypeInfo} (hT : P.underlying T = some (.array n e)) (he : P.underlying e = some (.int k)) (hi : P.info? e = some i) (hs : i.size = 1) (xs ys : List (BitVec m)) (hx : xs.length = n) (hy : ys.length = n) :
    (Op.equal T (.agg (xs.map fun x => Value.int k x.toNat).toArray) (.agg (ys.map fun x => Value.int k x.toNat).toArray)).run P w = .ok (xs == ys) w := by
  have hc : P.cellsOf e = 1 := by simp [Program.cellsOf, hi, hs]
  rw [Op.equal, Op.maxDepth, run_equalIn_array w 9999 _ _ hT hi, hc, run_eqItems_words w 9998 he xs ys _ (fun j hj => by have := List.mem_range.1 hj; omega), all_range_eq xs ys n hx hy]
theorem run_eql_words {m e n T : Nat} {k : IntKind} {i : TypeInfo} (hT : P.underlying T = some (.array n e)) (he : P.underlying e = some (.int k)) (hi : P.info? e = some i) (hs : i.size = 1) (xs ys : List (BitVec m)) (hx : xs.length = n) (hy : ys.length = n) :
    (binOp .eql T (.agg (xs.map fun x => Value.int k x.toNat).toArray) (.agg (ys.map fun x => Value.int k x.toNat).toArray)).run P w = .ok (.bool (xs == ys)) w := by
  simp only [binOp, Sem.run_bind, run_equal_words w hT he hi hs xs ys hx hy, Result.andThen_ok]; rfl
theorem run_neq_words {m e n T : Nat} {k : IntKind} {i : TypeInfo} (hT : P.underlying T = some (.array n e)) (he : P.underlying e = some (.int k)) (hi : P.info? e = some i) (hs : i.size = 1) (xs ys : List (BitVec m)) (hx : xs.length = n) (hy : ys.length = n) :
    (binOp .neq T (.agg (xs.map fun x => Value.int k x.toNat).toArray) (.agg (ys.map fun x => Value.int k x.toNat).toArray)).run P w = .ok (.bool (xs != ys)) w := by
  simp only [binOp, Sem.run_bind, run_equal_words w hT he hi hs xs ys hx hy, Result.andThen_ok]; rfl
end
end Go.Proofs.YtaphbkkklapdaaaDoor
