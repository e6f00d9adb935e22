/-
  Hashes held against one another.
-/
import Derived.Test.YtaphbkkklapdaaaDoorEq
import Derived.Test.YtaphbkkklapdaaaDoorBytes
namespace Go.Proofs.YtaphbkkklapdaaaDoor
open Go Go.RowKit Go.Proofs
theorem guard_h32 (op : BinOp) (x y : Operand) (A B : Array Value) (w : World) : (eqGuard op 23 x y (.agg A) (.agg B)).run Tryd.prog w = .ok () w := run_eqGuard_agg w op _ x y A B (by kernel_rfl)
theorem eql_h32 (xs ys : List (BitVec 8)) (hx : xs.length = 32) (hy : ys.length = 32) (w : World) : (binOp .eql 23 (.agg (xs.map U8).toArray) (.agg (ys.map U8).toArray)).run Tryd.prog w = .ok (.bool (xs == ys)) w := by
  obtain ⟨i, hi, _, hs, _⟩ := info_byte
  exact run_eql_words w Tryd.underlying23 Tryd.underlying5 hi hs xs ys hx hy
theorem neq_h32 (xs ys : List (BitVec 8)) (hx : xs.length = 32) (hy : ys.length = 32) (w : World) : (binOp .neq 23 (.agg (xs.map U8).toArray) (.agg (ys.map U8).toArray)).run Tryd.prog w = .ok (.bool (xs != ys)) w := by
  obtain ⟨i, hi, _, hs, _⟩ := info_byte
  exact run_neq_words w Tryd.underlying23 Tryd.underlying5 hi hs xs ys hx hy
end Go.Proofs.YtaphbkkklapdaaaDoor
