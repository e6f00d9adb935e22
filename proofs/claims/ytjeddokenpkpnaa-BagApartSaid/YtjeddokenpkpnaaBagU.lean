/-
  Rows of bools, of ints, of byte strings; numbers from one on.
-/
import Derived.Test.YtjeddokenpkpnaaBagO
namespace Go.Proofs.Ytjeddokenpkpnaa
open Go Go.RowKit Go.Proofs Go.Maps
/-- byte strings that can be read -/
structure RdBB (w : World) (v : Value) (ps : List (Value × List (BitVec 8))) : Prop where
  row : RdA w 1 v (ps.map fun p => [p.1])
  bodies : ∀ p ∈ ps, RdB w p.1 p.2
theorem RdBB.upd0 {w w' : World} {v : Value} {ps : List (Value × List (BitVec 8))} (h : RdBB w v ps) (u : Upd [] w w') : RdBB w' v ps := ⟨h.row.upd0 u, fun p hp => (h.bodies p hp).upd0 u⟩
def RdI (w : World) (v : Value) (l : List Int) : Prop := RdA w 1 v (l.map icell)
theorem RdI.upd0 {w w' : World} {v : Value} {l : List Int} (h : RdI w v l) (u : Upd [] w w') : RdI w' v l := RdA.upd0 h u
def bcell (b : Bool) : Cs := [.bool b]
theorem eltL : ElemT Try.prog 35 4 1 1 (.bool false) := .mk' Try.underlying35 (by kernel_rfl) rfl (by omega) (by omega)
def OwnL (w : World) (B : Nat) (v : Value) (l : List Bool) : Prop := OwnA w B 4 1 v (l.map bcell)
theorem bcell_flat (l : List Bool) : (l.map bcell).flatten = l.map Value.bool := by
  induction l with
  | nil => rfl
  | cons x r ih => simp only [List.map_cons, List.flatten_cons, ih, bcell, List.singleton_append]
theorem OwnL.of {w : World} {B : Nat} {v : Value} {l : List Bool} (h : w.ownsRow B 4 1 v l.length (l.map Value.bool)) : OwnL w B v l := by
  refine ⟨fun x hx => ?_, ?_⟩
  · obtain ⟨y, _, rfl⟩ := List.mem_map.1 hx; rfl
  · rwa [bcell_flat, List.length_map]
/-- bools of false, made -/
theorem makeL {ops : Array Oper} {rest : List Oper} {a : Act} {w : World} {Q : Exit → Act → World → Prop} {dst : Option Tmp} {type : TypeId} {pos : String} {after : Array Edge} {x y : Operand} {n : Nat}
    (hx : a.eval x = .int .i64 n) (hy : a.eval y = .int .i64 n) (hn : n ≤ 1000000)
    (h : ∀ g w', w.heap.size = g → OwnL w' g (.slice (some ⟨g, 0, none⟩) n n) (List.replicate n false) → Upd [] w w' → wpList Try.prog ops Q rest (a.put dst (.slice (some ⟨g, 0, none⟩) n n)) w') :
    wpList Try.prog ops Q (⟨dst, .makeSlice 35 x y, type, pos, after, none⟩ :: rest) a w := by
  obtain ⟨i, hi, hz, hsz, hby⟩ := eltL.hi
  refine wpList_make_own rfl 35 x y rfl w.heap.size 4 i _ 1 1 Try.underlying35 hi hz hsz hby rfl n n n n hx hy rfl rfl (Nat.le_refl _) (by omega) (by simp only [maxLen]; omega) (Nat.le_refl _) ?_
  intro w' h1 h2
  refine h _ w' rfl (OwnL.of ?_) ⟨h2.os, h2.tape, h2.output, h2.size, fun k hk _ => h2.block k hk (by simp)⟩
  have e : (madeCells (Value.bool false).cells (n * 1)).toList.take (n * 1) = (List.replicate n false).map Value.bool := by
    simp only [madeCells, Nat.mul_one]
    apply List.ext_getElem
    · simp
    · intro k h1 h2
      simp [Value.cells, Nat.mod_one]
  rw [e] at h1
  rwa [List.length_replicate]
theorem OwnL.cell {w : World} {B g cap n : Nat} {l : List Bool} (h : OwnL w B (.slice (some ⟨g, 0, none⟩) n cap) l) (k : Nat) (hk : k < l.length) : w.cell? ⟨g, k, none⟩ = some (.bool l[k]) := by
  have := OwnA.elem h k (by rw [List.length_map]; exact hk) 0 (.bool l[k]) (by simp [bcell])
  simpa using this
theorem OwnL.set {w : World} {B g cap n : Nat} {l : List Bool} (h : OwnL w B (.slice (some ⟨g, 0, none⟩) n cap) l) (k : Nat) (hk : k < l.length) (u : Bool) :
    w.frozen? ⟨g, k, none⟩ = false ∧ OwnL (w.setCell ⟨g, k, none⟩ (.bool u)) B (.slice (some ⟨g, 0, none⟩) n cap) (l.set k u) := by
  obtain ⟨h1, h2⟩ := OwnA.set h k (by rw [List.length_map]; exact hk) (bcell u) rfl
  rw [Nat.mul_one] at h1 h2
  refine ⟨by have := (h1 0 (by omega)).2; simpa using this, ?_⟩
  unfold OwnL
  rw [List.map_set]
  exact h2
/-- numbers from one on -/
def Count (es : List Ent) : Prop := ∀ (i : Nat) (h : i < es.length), es[i].id = (i : Int) + 1
theorem Count.push {es : List Ent} (h : Count es) (e : Ent) (he : e.id = (es.length : Int) + 1) : Count (es ++ [e]) := by
  intro i hi
  by_cases hlt : i < es.length
  · rw [List.getElem_append_left hlt]; exact h i hlt
  · have hi' : i = es.length := by simp at hi; omega
    subst hi'
    simp [he]
theorem Count.rise {es : List Ent} (h : Count es) : Rise es := by
  refine List.pairwise_iff_getElem.2 (fun i j hi hj hij => ?_)
  rw [h i hi, h j hj]; omega
theorem Count.find {es : List Ent} (h : Count es) (i : Nat) (hi : i < es.length) : findE es ((i : Int) + 1) = some es[i] := by
  have := findE_get h.rise i hi
  rwa [h i hi] at this
theorem Count.out {es : List Ent} (h : Count es) (x : Int) (hx : x < 1 ∨ (es.length : Int) < x) : findE es x = none := by
  cases hq : findE es x with
  | none => rfl
  | some y =>
    obtain ⟨h1, h2⟩ := findE_some hq
    obtain ⟨j, hj, rfl⟩ := List.getElem_of_mem h1
    rw [h j hj] at h2
    omega
end Go.Proofs.Ytjeddokenpkpnaa
