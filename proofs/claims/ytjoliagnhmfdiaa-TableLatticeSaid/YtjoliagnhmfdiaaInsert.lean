/-
  slices.Insert of one entry into no rows.
-/
import Derived.Test.YtjoliagnhmfdiaaPutZero
import Derived.Test.YtjoliagnhmfdiaaOwn
namespace Go.Proofs.Ytjoliagnhmfdiaa
open Go Go.RowKit Go.Proofs
theorem info_entry : ∃ i, Try.prog.info? 29 = some i ∧ (∃ z, i.zero = some z ∧ z.cells.size = 262) ∧ i.size = 262 ∧ i.bytes ≤ 1000 := by
  have h : (Try.prog.info? 29).map (fun i => (i.zero.map (·.cells.size), i.size, decide (i.bytes ≤ 1000))) = some (some 262, 262, true) := by kernel_rfl
  cases hq : Try.prog.info? 29 with
  | none => rw [hq] at h; cases h
  | some i =>
    rw [hq] at h
    simp only [Option.map_some, Option.some.injEq, Prod.mk.injEq, decide_eq_true_eq] at h
    refine ⟨i, rfl, ?_, h.2.1, h.2.2⟩
    cases hz : i.zero with
    | none => rw [hz] at h; cases h.1
    | some z => rw [hz] at h; exact ⟨z, rfl, by simpa using h.1⟩
theorem arm_appendE {ops : Array Oper} {rest : List Oper} {a : Act} {w : World} {Q : Exit → Act → World → Prop} {dst : Option Tmp} {type : TypeId} {pos : String} {after : Array Edge} {s x : Operand} {g : Nat} {e : Ent} {T : TypeId} {fr : Nat × Nat}
    (hs : a.eval s = .slice none 0 0) (hx : a.eval x = .slice (some ⟨g, 0, none⟩) 1 1) (hg : w.heap[g]? = some (.cells (entC e).toArray T fr)) (he : e.ok)
    (h : ∀ A c w', Upd [] w w' → wpList Try.prog ops Q rest (a.put dst (.slice A 1 c)) w') :
    wpList Try.prog ops Q (⟨dst, .call { callee := .builtin .append, args := #[s, x], argTypes := #[56, 56] }, type, pos, after, none⟩ :: rest) a w := by
  obtain ⟨i, hi, ⟨z, hz, hzc⟩, hsz, hby⟩ := info_entry
  refine wpList_append_keep rfl s x 56 rfl w.heap.size 29 i z 262 i.bytes Try.underlying56 hi hz hsz rfl hzc (by omega) (.slice none 0 0) 0 [] hs (World.ownsRow_nil w w.heap.size _ 262) ⟨g, 0, none⟩ 1 1 (entC e) hx (by rw [entC_length he])
    (fun j u hj => by rw [Addr.add_lit, cell_of_row w g _ _ _ _ hg]; simpa using hj) (entC_one e) (by simp [maxLen]) (by omega) (Nat.le_refl _) (fun v' w' h2 _ h4 _ => ?_)
  have hU : Upd [] w w' := (Upd.refl [] w).grown h4 (fun k hk _ => by cases hk)
  rcases h2.2 with ⟨_, h0⟩ | ⟨g', cap, cur, rfl, _⟩
  · omega
  · exact h _ _ _ hU
set_option maxRecDepth 100000 in
set_option maxHeartbeats 1600000 in
theorem insert_zero (w : World) (g : Nat) (e : Ent) (T : TypeId) (fr : Nat × Nat) (he : e.ok) (hg : w.heap[g]? = some (.cells (entC e).toArray T fr)) :
    Calls Try.prog 25 #[.slice none 0 0, .int .i64 0, .slice (some ⟨g, 0, none⟩) 1 1] w fun x w' => ∃ A c, x = .returned (.slice A 1 c) ∧ Upd [] w w' := by
  have HE := Lib.hid he
  have HG := Lib.hid hg
  clear he hg
  go_enter Try.func25, Try.ntmps25
  go_wp2_with (with_reducible refine arm_appendE (by with_unfolding_all exact rfl) (by with_unfolding_all exact rfl) HG.out HE.out ?_)
  intro A c w2 hU
  go_wp2_with (fail)
  go_ret
  exact ⟨A, c, rfl, hU⟩
end Go.Proofs.Ytjoliagnhmfdiaa
