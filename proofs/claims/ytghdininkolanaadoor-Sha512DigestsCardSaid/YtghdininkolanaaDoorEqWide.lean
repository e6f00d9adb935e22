/-
  Wide hashes held against one another.
-/
import Derived.Test.YtghdininkolanaaDoorEq
import Derived.Test.YtghdininkolanaaDoorBytes
namespace Go.Proofs.YtghdininkolanaaDoor
open Go Go.RowKit Go.Proofs
theorem guard_w64 (op : BinOp) (x y : Operand) (A B : Array Value) (w : World) : (eqGuard op 46 x y (.agg A) (.agg B)).run Tryd.prog w = .ok () w := run_eqGuard_agg w op _ x y A B (by kernel_rfl)
theorem eql_w64 (xs ys : List (BitVec 8)) (hx : xs.length = 64) (hy : ys.length = 64) (w : World) : (binOp .eql 46 (.agg (xs.map U8).toArray) (.agg (ys.map U8).toArray)).run Tryd.prog w = .ok (.bool (xs == ys)) w := by
  obtain ⟨i, hi, _, hs, _⟩ := info_byte
  exact run_eql_words w Tryd.underlying46 Tryd.underlying5 hi hs xs ys hx hy
theorem neq_w64 (xs ys : List (BitVec 8)) (hx : xs.length = 64) (hy : ys.length = 64) (w : World) : (binOp .neq 46 (.agg (xs.map U8).toArray) (.agg (ys.map U8).toArray)).run Tryd.prog w = .ok (.bool (xs != ys)) w := by
  obtain ⟨i, hi, _, hs, _⟩ := info_byte
  exact run_neq_words w Tryd.underlying46 Tryd.underlying5 hi hs xs ys hx hy
theorem eql_wide (xs : List (BitVec 8)) (hx : xs.length = 64) (w : World) : (binOp .eql 46 (.agg (xs.map U8).toArray) (.agg (xs.map U8).toArray)).run Tryd.prog w = .ok (.bool true) w := by
  have := eql_w64 xs xs hx hx w
  rwa [show (xs == xs) = true by simp] at this
theorem neq_wide (xs : List (BitVec 8)) (hx : xs.length = 64) (w : World) : (binOp .neq 46 (.agg (xs.map U8).toArray) (.agg (xs.map U8).toArray)).run Tryd.prog w = .ok (.bool false) w := by
  have := neq_w64 xs xs hx hx w
  rwa [show (xs != xs) = false by simp] at this
end Go.Proofs.YtghdininkolanaaDoor
