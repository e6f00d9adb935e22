/-
  The law's step: one call on one of the Digests.
-/
import Derived.Test.YtghdininkolanaaDoorDP256
import Derived.Test.YtghdininkolanaaDoorMarked
import Derived.Test.YtghdininkolanaaDoorRefSum256
import Derived.Test.YtghdininkolanaaDoorEqHash
namespace Go.Proofs.YtghdininkolanaaDoor
open Go Go.RowKit Go.Proofs
def zpair : Array Value := #[.pointer none, .slice none 0 0, .slice none 0 0]
theorem zero_pair (w : World) : (zeroValue 27).run Tryd.prog w = .ok (.agg zpair) w := by kernel_rfl
theorem size_pair : (Tryd.prog.info? 27).map (·.size) = some 3 := by kernel_rfl
theorem size_bytesv : (Tryd.prog.info? 25).map (·.size) = some 1 := by kernel_rfl
theorem yields_add {P : Program} {S : World → Prop} {a : Act} {dst : Option Tmp} {t type : TypeId} {pos : String} {after : Array Edge} {gd : Option (Nat × Bool)} {x y : Operand} {m n k : Int} {it : TypeId}
    (hx : a.eval x = .int .i64 m) (hy : a.eval y = .int .i64 n) (hk : m + n = k) (h1 : -9223372036854775808 ≤ k) (h2 : k ≤ 9223372036854775807) :
    ∀ w, S w → (execOp a.eval ⟨dst, .binOp .add t x y it, type, pos, after, gd⟩).run P w = .ok (.value (.int .i64 k)) w := by
  intro w _
  subst hk
  unfold execOp
  simp only [hx, hy]
  have hwr : IntKind.i64.wrap (m + n) = m + n := by simp only [IntKind.wrap, IntKind.bits, IntKind.signed]; simp; omega
  simp [go_sem, hwr]
theorem own_cut0 {w : World} {B : Nat} {v : Value} {l : List (BitVec 8)} (h : OwnB w B v l) : ∃ A n c, v = .slice A n c ∧ n ≤ c ∧ OwnB w B (.slice A 0 c) [] ∧ (Value.slice A 0 c).ownBlock = v.ownBlock := by
  rcases h.2 with ⟨rfl, h0⟩ | ⟨g, cap, cur, rfl, hb, hh, hn, hm, hs, ht⟩
  · exact ⟨none, 0, 0, rfl, Nat.le_refl _, OwnB.nil _ _, rfl⟩
  · exact ⟨_, _, _, rfl, hn, ⟨rfl, .inr ⟨g, cap, cur, rfl, hb, hh, Nat.zero_le _, hm, hs, by simp⟩⟩, rfl⟩
theorem slice0 {P : Program} (W : World) (t size : Nat) (A : Option Addr) (n c : Nat) (hnc : n ≤ c) (ht : P.underlying t = some (.slice (P.elem t))) (hs : (P.info? (P.elem t)).map (·.size) = some size) (hA : A = none ∨ ∃ g, A = some ⟨g, 0, none⟩) :
    (Instr.sliceAt t (.slice A n c) none (some (.int .i64 0)) none).run P W = .ok (.slice A 0 c) W := by
  have := run_cut (P := P) W t size ht hs A n c 0 0 none (some (.int .i64 ((0 : Nat) : Int))) (.inl ⟨rfl, rfl⟩) (.inr rfl) (Nat.le_refl _) (by omega) hnc
  rw [show (some (Value.int IntKind.i64 0)) = some (.int .i64 ((0 : Nat) : Int)) from rfl, this]
  congr 2
  rcases hA with rfl | ⟨g, rfl⟩ <;> simp [Addr.add]
end Go.Proofs.YtghdininkolanaaDoor
