/-
  The cuts s[i:], s[:j], s[i:j] of a slice of bytes that can be read: what comes of them can be read, too.
-/
import Derived.Test.YtjeddokenpkpnaaCopy
namespace Go.Proofs.Ytjeddokenpkpnaa
open Go Go.RowKit Go.Proofs
theorem run_cut {P : Program} (w : World) (t : TypeId) (size : Nat) (ht : P.underlying t = some (.slice (P.elem t))) (hs : (P.info? (P.elem t)).map (·.size) = some size) (A : Option Addr) (n c i j : Nat) (lo hi : Option Value)
    (hlo : (lo = none ∧ i = 0) ∨ lo = some (.int .i64 i)) (hhi : (hi = none ∧ j = n) ∨ hi = some (.int .i64 j)) (h1 : i ≤ j) (h2 : j ≤ n) (h3 : n ≤ c) :
    (Instr.sliceAt t (.slice A n c) lo hi none).run P w = .ok (.slice (if c = i then A else A.map (·.add (i * size))) (j - i) (c - i)) w := by
  have hsz : (sizeOf (P.elem t)).run P w = .ok size w := by
    cases hq : P.info? (P.elem t) with
    | none => simp [hq] at hs
    | some x => have : x.size = size := by simpa [hq] using hs
                simp [sizeOf, typeInfo, hq, this]
  rw [run_sliceAt_slice w t _ lo hi none ht]
  rcases hlo with ⟨rfl, rfl⟩ | rfl <;> rcases hhi with ⟨rfl, rfl⟩ | rfl
  · rw [run_slice_all w t A _ c ht, hsz]; rfl
  · rw [run_slice_h w t A n c ht .i64 j (by omega) (by omega), hsz]
    simp [Result.andThen, sliced]
  · rw [run_slice_l w t A _ c ht .i64 i (by omega) (by omega), hsz]
    simp [Result.andThen, sliced]
  · rw [run_slice_lh w t A n c ht .i64 .i64 i j (by omega) (by omega) (by omega), hsz]
    simp [Result.andThen, sliced]
theorem RdB.cut_any {w : World} {A : Option Addr} {n c : Nat} {l : List (BitVec 8)} (h : RdB w (.slice A n c) l) (i j : Nat) (h1 : i ≤ j) (h2 : j ≤ n) :
    RdB w (.slice (if c = i then A else A.map (·.add (i * 1))) (j - i) (c - i)) ((l.take j).drop i) ∧ (0 < j - i → (Value.slice (if c = i then A else A.map (·.add (i * 1))) (j - i) (c - i)).ownBlock = (Value.slice A n c).ownBlock) := by
  obtain ⟨A', c', e, hc1, hc2, h3⟩ := h
  injection e with e1 e2 e3
  subst e1 e2 e3
  have hl : ((l.take j).drop i).length = j - i := by simp; omega
  refine ⟨⟨_, _, by rw [hl], by omega, by omega, fun hp => ?_⟩, fun hp => ?_⟩
  · obtain ⟨g, p, rfl, hb⟩ := h3 (by omega)
    refine ⟨g, p + i, ?_, (hb.take j).drop i⟩
    rw [if_neg (by omega)]
    simp [Addr.add_lit]
  · obtain ⟨g, p, rfl, hb⟩ := h3 (by omega)
    rw [if_neg (by omega)]
    simp [Addr.add_lit, Value.ownBlock]
theorem elem_bytes : Try.prog.elem 27 = 5 := by kernel_rfl
/-- the operation: a cut -/
theorem cut_bytes {w : World} {ops : Array Oper} {rest : List Oper} {o : Oper} {a : Act} {Q : Exit → Act → World → Prop} (hgd : o.guard = none) (x : Operand) (lo hi : Option Operand) (ho : o.op = .slice 27 x lo hi none)
    (A : Option Addr) (n c : Nat) (hx : a.eval x = .slice A n c) (l : List (BitVec 8)) (hr : RdB w (.slice A n c) l) (i j : Nat) (hlo : (lo.map a.eval = none ∧ i = 0) ∨ lo.map a.eval = some (.int .i64 i)) (hhi : (hi.map a.eval = none ∧ j = n) ∨ hi.map a.eval = some (.int .i64 j))
    (h1 : i ≤ j) (h2 : j ≤ n)
    (h : ∀ B, RdB w (.slice B (j - i) (c - i)) ((l.take j).drop i) → (0 < j - i → (Value.slice B (j - i) (c - i)).ownBlock = (Value.slice A n c).ownBlock) → wpList Try.prog ops Q rest (a.put o.dst (.slice B (j - i) (c - i))) w) :
    wpList Try.prog ops Q (o :: rest) a w := by
  have h3 : n ≤ c := by
    obtain ⟨A', c', e, hc1, _⟩ := hr
    injection e with e1 e2 e3
    omega
  obtain ⟨i0, hi0, _, hsz, _⟩ := info_byte
  have hs : (Try.prog.info? (Try.prog.elem 27)).map (·.size) = some 1 := by rw [elem_bytes, hi0]; simp [hsz]
  refine wpList_plain hgd fun K hK => ?_
  have hrun := run_cut (P := Try.prog) w 27 1 (by rw [elem_bytes]; exact Try.underlying27) hs A n c i j _ _ hlo hhi h1 h2 h3
  have hc := RdB.cut_any hr i j h1 h2
  unfold Oper.wp
  simp only [execOp, ho, hx, Option.map_none, hrun, Sem.run_bind, Sem.run_pure, Result.andThen_ok]
  exact hK _ _ (h _ hc.1 hc.2)
end Go.Proofs.Ytjeddokenpkpnaa
