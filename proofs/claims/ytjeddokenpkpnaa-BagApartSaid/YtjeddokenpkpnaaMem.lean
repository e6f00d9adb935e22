/-
  Memory: what a call may have turned (Upd), rows of cells, bytes.
-/
import Derived.Test.YtjeddokenpkpnaaWords
import Derived.Deep.QuietTactic
import Derived.Lib.Hide
import Derived.Deep.Cut
import Derived.BigQuiet
import Derived.Deep.RegionWith
namespace Go.Proofs.Ytjeddokenpkpnaa
open Go Go.RowKit

/-- w' is w but for new blocks and for what the old blocks in S hold; draws may have moved -/
structure Upd (S : List Nat) (w w' : World) : Prop where
  os : w'.os = w.os
  tape : w'.tape = w.tape
  output : w'.output = w.output
  size : w.heap.size ≤ w'.heap.size
  block : ∀ k, k < w.heap.size → k ∉ S → w'.heap[k]? = w.heap[k]?

theorem Upd.refl (S : List Nat) (w : World) : Upd S w w := ⟨rfl, rfl, rfl, Nat.le_refl _, fun _ _ _ => rfl⟩
/-- two steps: what the second may turn is new to the first, or in S -/
theorem Upd.trans' {S T : List Nat} {a b c : World} (h : Upd S a b) (k : Upd T b c) (hT : ∀ i ∈ T, i < a.heap.size → i ∈ S) : Upd S a c :=
  ⟨k.os.trans h.os, k.tape.trans h.tape, k.output.trans h.output, Nat.le_trans h.size k.size,
   fun i hi hn => (k.block i (Nat.lt_of_lt_of_le hi h.size) (fun hm => hn (hT i hm hi))).trans (h.block i hi hn)⟩
theorem Upd.trans {S : List Nat} {a b c : World} (h : Upd S a b) (k : Upd S b c) : Upd S a c := h.trans' k (fun _ hm _ => hm)
theorem Upd.trans0 {S : List Nat} {a b c : World} (h : Upd S a b) (k : Upd [] b c) : Upd S a c := h.trans' k (fun _ hm _ => by cases hm)
theorem Upd.mono {S T : List Nat} {a b : World} (h : Upd S a b) (hT : ∀ i ∈ S, i < a.heap.size → i ∈ T) : Upd T a b := (Upd.refl T a).trans' h hT
theorem Upd.of0 {T : List Nat} {a b : World} (h : Upd [] a b) : Upd T a b := h.mono (fun _ hm _ => by cases hm)
theorem Upd.drew {S : List Nat} {a w : World} (h : Upd S a w) : Upd S a w.drew := ⟨h.os, h.tape, h.output, h.size, h.block⟩
theorem Upd.drewN {S : List Nat} {a w : World} (h : Upd S a w) (n : Nat) : Upd S a (w.drewN n) := ⟨h.os, h.tape, h.output, h.size, h.block⟩
theorem Upd.alloc {S : List Nat} {a w : World} (h : Upd S a w) (o : Obj) : Upd S a (w.alloc o) :=
  h.trans0 ⟨rfl, rfl, rfl, by simp, fun k hk _ => Below.heap_alloc _ _ _ hk⟩
theorem Upd.setCell {S : List Nat} {a w : World} (h : Upd S a w) (p : Addr) (u : Value) (hp : p.block < a.heap.size → p.block ∈ S) : Upd S a (w.setCell p u) :=
  h.trans' (T := [p.block]) ⟨rfl, rfl, rfl, by simp [World.setCell], fun k _ hn => Below.heap_setCell _ _ _ _ (by simpa using hn)⟩ (fun i hm hi => by simp at hm; subst hm; exact hp hi)
theorem Upd.setRow {S : List Nat} {a w : World} (h : Upd S a w) (g : Nat) (cs : Array Value) (hp : g < a.heap.size → g ∈ S) : Upd S a (w.setRow g cs) :=
  h.trans' (T := [g]) ⟨rfl, rfl, rfl, by simp, fun k _ hn => setRow_other _ _ _ _ (by simpa using hn)⟩ (fun i hm hi => by simp at hm; subst hm; exact hp hi)
theorem Upd.below {w w' : World} (h : Upd [] w w') : Below w.heap.size w w' := ⟨h.os, h.tape, h.output, h.size, fun k hk => h.block k hk (by simp)⟩
theorem Upd.of_below {w w' : World} {B : Nat} (h : Below B w w') (hB : w.heap.size ≤ B) : Upd [] w w' := ⟨h.os, h.tape, h.output, h.size, fun k hk _ => h.block k (Nat.lt_of_lt_of_le hk hB)⟩
theorem Upd.grown {S : List Nat} {a w w' : World} {row : Option Nat} (h : Upd S a w) (hg : w.grownBy w' row) (hr : ∀ k, row = some k → k < a.heap.size → k ∈ S) : Upd S a w' :=
  ⟨hg.os.trans h.os, hg.tape.trans h.tape, hg.output.trans h.output, Nat.le_trans h.size hg.size, fun k hk hn =>
    (hg.block k (Nat.lt_of_lt_of_le hk h.size) (fun e => hn (hr k e.symm hk))).trans (h.block k hk hn)⟩
theorem Upd.cell {S : List Nat} {w w' : World} (h : Upd S w w') {p : Addr} {v : Value} (hc : w.cell? p = some v) (hn : p.block ∉ S) : w'.cell? p = some v :=
  (World.cell?_of_block (w := w) (h.block p.block (World.block_lt_of_cell? w p hc) hn)).trans hc
theorem Upd.heap {S : List Nat} {w w' : World} (h : Upd S w w') {b : Nat} {o : Obj} (hb : w.heap[b]? = some o) (hn : b ∉ S) : w'.heap[b]? = some o :=
  (h.block b (Array.getElem?_eq_some_iff.1 hb).1 hn).trans hb
theorem lt_of_heap {w : World} {b : Nat} {o : Obj} (hb : w.heap[b]? = some o) : b < w.heap.size := (Array.getElem?_eq_some_iff.1 hb).1

theorem heap_alloc_if (w : World) (o : Obj) (k : Nat) : (w.alloc o).heap[k]? = if k = w.heap.size then some o else w.heap[k]? := by
  show (w.heap.push o)[k]? = _
  rw [Array.getElem?_push]
theorem hget_new {w : World} {o : Obj} {k : Nat} (h : k = w.heap.size) : (w.alloc o).heap[k]? = some o := by rw [heap_alloc_if, if_pos h]
theorem hget_old {w : World} {o x : Obj} {k : Nat} (h : w.heap[k]? = some x) : (w.alloc o).heap[k]? = some x := by
  have := lt_of_heap h
  rw [heap_alloc_if, if_neg (by omega)]; exact h
theorem ret_eq {a b : Value} (h : a = b) : Ending.returned a = .returned b := by rw [h]

/-- the bytes of a list lie from address (b, o) on -/
def Bytes (w : World) (b o : Nat) (l : List (BitVec 8)) : Prop := ∀ i (h : i < l.length), w.cell? ⟨b, o + i, none⟩ = some (U8 l[i])
theorem Bytes.upd {w w' : World} {b o : Nat} {l : List (BitVec 8)} {S : List Nat} (h : Bytes w b o l) (u : Upd S w w') (hn : b ∉ S) : Bytes w' b o l :=
  fun i hi => u.cell (h i hi) hn
theorem Bytes.drop {w : World} {b o : Nat} {l : List (BitVec 8)} (h : Bytes w b o l) (k : Nat) : Bytes w b (o + k) (l.drop k) := fun i hi => by
  have := h (k + i) (by simp at hi; omega)
  rw [Nat.add_assoc, this]; simp
theorem Bytes.take {w : World} {b o : Nat} {l : List (BitVec 8)} (h : Bytes w b o l) (k : Nat) : Bytes w b o (l.take k) := fun i hi => by
  have := h i (by simp at hi; omega)
  rw [this]; simp
theorem Bytes.of_row {w : World} {b : Nat} {cs : Array Value} {T : TypeId} {fr : Nat × Nat} (hb : w.heap[b]? = some (.cells cs T fr)) (l : List (BitVec 8)) (o : Nat)
    (hc : ∀ i (h : i < l.length), cs[o + i]? = some (U8 l[i])) : Bytes w b o l := fun i hi => by
  rw [cell_of_row w b (o + i) cs T fr hb]; exact hc i hi

/-- an element of an array that is a value -/
theorem run_index_row {P : Program} {T e n : Nat} {d : TypeDesc} {cs : Array Value} {v : Value} (k : Nat) (hT : P.underlying T = some (.array n e)) (he : P.underlying e = some d) (hd : (match d with | .struct _ | .array _ _ => true | _ => false) = false)
    (hs : (P.info? e).map (·.size) = some 1) (hk : k < n) (hc : cs[k]? = some v) (w : World) : (Instr.index T (.agg cs) (.int .i64 (k : Int))).run P w = .ok v w := by
  have hagg : (isAgg e).run P w = .ok false w := by
    unfold isAgg
    rw [Sem.run_bind, run_underlying he w]
    cases d <;> simp_all
  cases hq : P.info? e with
  | none => simp [hq] at hs
  | some i =>
    have hi : i.size = 1 := by simpa [hq] using hs
    simp [Instr.index, asIntOf, run_underlying hT, Sem.run_bind, hk, sizeOf, typeInfo, hq, hi, part, hagg, hc]

/-- a word out of bytes, the highest first -/
def be (n : Nat) (l : List (BitVec 8)) : BitVec n := l.foldl (fun x c => x <<< 8 ||| c.setWidth n) 0
theorem be_snoc (n : Nat) (l : List (BitVec 8)) (c : BitVec 8) : be n (l ++ [c]) = be n l <<< 8 ||| c.setWidth n := by simp [be, List.foldl_append]
theorem take_snoc' {α : Type} (l : List α) (k : Nat) (h : k < l.length) : l.take (k + 1) = l.take k ++ [l[k]] := by
  rw [List.take_succ_eq_append_getElem h]
end Go.Proofs.Ytjeddokenpkpnaa
