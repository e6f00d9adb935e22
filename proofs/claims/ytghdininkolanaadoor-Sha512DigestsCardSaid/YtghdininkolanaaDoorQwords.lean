/-
  Rows of words of 64 bits of the call's own.
-/
import Derived.Test.YtghdininkolanaaDoorOwn
import Derived.Test.YtghdininkolanaaDoorProg
namespace Go.Proofs.YtghdininkolanaaDoor
open Go Go.RowKit Go.Proofs
def OwnQ (w : World) (B : Nat) (v : Value) (l : List (BitVec 64)) : Prop := w.ownsRow B 49 1 v l.length (l.map U64)
theorem OwnQ.upd {w w' : World} {B : Nat} {v : Value} {l : List (BitVec 64)} {S : List Nat} (h : OwnQ w B v l) (u : Upd S w w') (hn : ∀ k, v.ownBlock = some k → k ∉ S) : OwnQ w' B v l := own_upd h u hn
theorem OwnQ.upd0 {w w' : World} {B : Nat} {v : Value} {l : List (BitVec 64)} (h : OwnQ w B v l) (u : Upd [] w w') : OwnQ w' B v l := own_upd h u (by simp)
theorem OwnQ.drew {w : World} {B : Nat} {v : Value} {l : List (BitVec 64)} (h : OwnQ w B v l) (n : Nat) : OwnQ (w.drewN n) B v l := h
theorem OwnQ.lt {w : World} {B : Nat} {v : Value} {l : List (BitVec 64)} (h : OwnQ w B v l) : ∀ k, v.ownBlock = some k → B ≤ k ∧ k < w.heap.size := own_block h
theorem OwnQ.nil (w : World) (B : Nat) : OwnQ w B (.slice none 0 0) [] := World.ownsRow_nil w B _ 1
theorem OwnQ.at {w : World} {B : Nat} {v : Value} {l : List (BitVec 64)} (h : OwnQ w B v l) (hn : 0 < l.length) :
    ∃ g cap, v = .slice (some ⟨g, 0, none⟩) l.length cap ∧ B ≤ g ∧ g < w.heap.size := by
  obtain ⟨g, cap, cur, r⟩ := own_at h hn
  exact ⟨g, cap, r.1, r.2.1, lt_of_heap r.2.2.1⟩
theorem OwnQ.isSlice {w : World} {B : Nat} {v : Value} {l : List (BitVec 64)} (h : OwnQ w B v l) : ∃ a cap, v = .slice a l.length cap := by
  rcases h.2 with ⟨rfl, h0⟩ | ⟨g, cap, cur, r⟩
  · exact ⟨none, 0, by rw [h0]⟩
  · exact ⟨_, _, r.1⟩
theorem OwnQ.cell {w : World} {B g cap n : Nat} {l : List (BitVec 64)} (h : OwnQ w B (.slice (some ⟨g, 0, none⟩) n cap) l) (k : Nat) (hk : k < l.length) : w.cell? ⟨g, k, none⟩ = some (U64 (l.getD k 0)) := by
  obtain ⟨a, c, e⟩ := h.isSlice
  injection e with e1 e2 e3
  subst e2
  rw [own_cell h k hk]; simp [hk]
theorem info_qword : ∃ i, Tryd.prog.info? 49 = some i ∧ i.zero = some (.int .u64 0) ∧ i.size = 1 ∧ i.bytes = 8 := by
  have h : (Tryd.prog.info? 49).map (fun i => (i.zero, i.size, i.bytes)) = some (some (.int .u64 0), 1, 8) := by kernel_rfl
  cases hq : Tryd.prog.info? 49 with
  | none => rw [hq] at h; cases h
  | some i =>
    rw [hq] at h
    simp at h
    exact ⟨i, rfl, h⟩
/-- append of one word that was just built -/
theorem append_qword {w : World} {ops : Array Oper} {rest : List Oper} {o : Oper} {a : Act} {Q : Exit → Act → World → Prop} (hgd : o.guard = none) (s x : Operand)
    (ho : o.op = .call { callee := .builtin .append, args := #[s, x], argTypes := #[78, 78] }) (B : Nat) (v : Value) (l : List (BitVec 64)) (hs : a.eval s = v) (w0 : World) (y : BitVec 64)
    (hw : w = w0.alloc (.cells #[U64 y] 49)) (hown : OwnQ w0 B v l) (hx : a.eval x = .slice (some ⟨w0.heap.size, 0, none⟩) 1 1) (hlen : l.length ≤ 17592186040000) (hB : B ≤ w0.heap.size)
    (h : ∀ v' w', OwnQ w' B v' (l ++ [y]) → Upd v.ownBlock.toList w0 w' → (∀ g, v'.ownBlock = some g → v.ownBlock = some g ∨ w0.heap.size ≤ g) → wpList Tryd.prog ops Q rest (a.put o.dst v') w') :
    wpList Tryd.prog ops Q (o :: rest) a w := by
  subst hw
  obtain ⟨i, hi, hz, hsz, hby⟩ := info_qword
  refine wpList_append_keep hgd s x 78 ho B 49 i _ 1 8 Tryd.underlying78 hi hz hsz hby rfl (by omega) v l.length (l.map U64) hs (own_alloc hown _) ⟨w0.heap.size, 0, none⟩ 1 1 [U64 y] hx rfl (cell_one_new _ _ _) (by simp) (by simp only [maxLen]; omega) (by omega) (by simp; omega) ?_
  intro v' w' h2 h3 h4 h5
  refine h v' w' ?_ (((Upd.refl _ w0).alloc _).trans (upd_grown h4)) (fun g hg => ?_)
  · unfold OwnQ
    rw [List.length_append, List.map_append]
    exact h2
  · rcases h5.block with e | e
    · exact .inl (by rw [← e]; exact hg)
    · rw [e] at hg; injection hg with hg; simp at hg; exact .inr (by omega)
end Go.Proofs.YtghdininkolanaaDoor
