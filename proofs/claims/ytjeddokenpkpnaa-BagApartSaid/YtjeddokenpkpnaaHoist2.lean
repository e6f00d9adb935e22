/-
  A region that draws its order, a second way: at each moment either one operation whose value stands in every world of a class S is taken (whatever the order, it may as well come now), or all that may come up are gone through.
-/
import Derived.Test.YtjeddokenpkpnaaHoist
namespace Go.Proofs.Ytjeddokenpkpnaa
open Go Go.RowKit
section
variable {P : Program} {ops : Array Oper} {Q K' : Exit → Act → World → Prop} {S : World → Prop}
/-- what comes: the end; an operation that is taken; one of those that may come up, and the others -/
inductive OrdT
  | none
  | take (i : Nat) (next : OrdT)
  | step (i : Nat) (next more : OrdT)
def OrdT.heads : OrdT → List Nat
  | .step i _ m => i :: m.heads
  | _ => []
def OrdT.ok (ops : Array Oper) : Bool → OrdT → Array Bool → Bool
  | t, .none, listed => !t || Region.ready .any ops listed == []
  | t, .take i n, listed => t && (Region.ready .any ops listed).contains i && Region.free .any ops listed i && n.ok ops true (listed.setIfInBounds i true)
  | t, .step i n m, listed => (!t || Region.ready .any ops listed == i :: m.heads) && n.ok ops true (listed.setIfInBounds i true) && m.ok ops false listed
def OrdT.depth : OrdT → Nat
  | .none => 0
  | .take _ n => n.depth + 1
  | .step _ n m => max (n.depth + 1) m.depth
def ordQ (P : Program) (ops : Array Oper) (Q : Exit → Act → World → Prop) (S : World → Prop) : Bool → OrdT → Act → World → Prop
  | t, .none, a, w => if t then Q .normal a w else True
  | _, .take i n, a, w => ∃ o v, ops[i]? = some o ∧ YieldsIf P ops S o v a ∧ ordQ P ops Q S true n (a.put o.dst v) w
  | _, .step i n m, a, w => (∃ o, ops[i]? = some o ∧ wpList P ops (endQ Q fun a w => S w ∧ ordQ P ops Q S true n a w) [o] a w) ∧ ordQ P ops Q S false m a w
theorem anyH_of_ordQ (hsel : Region.noSelect ops = true) (hQ : ∀ c a (d : Option Tmp) v w, Q (.panic c) (a.put d v) w → Q (.panic c) a w) :
    ∀ (T : OrdT),
      (∀ (fuel : Nat) (listed : Array Bool) (a : Act) (w : World), T.depth ≤ fuel → T.ok ops true listed = true → S w → ordQ P ops Q S true T a w → wpAnyH P .any ops Q S fuel listed a w) ∧
      (∀ (fuel : Nat) (listed : Array Bool) (a : Act) (w : World), T.depth ≤ fuel + 1 → T.ok ops false listed = true → ordQ P ops Q S false T a w → ∀ i ∈ T.heads, wpOp P ops Q i (fun a' w' => S w' ∧ wpAnyH P .any ops Q S fuel (listed.setIfInBounds i true) a' w') a w)
  | .none => ⟨fun fuel listed a w _ hB _ h => wpAnyH_done (by simpa [OrdT.ok] using hB) (by simpa [ordQ] using h) fuel, fun _ _ _ _ _ _ _ i hi => by cases hi⟩
  | .take i n => by
    have ih := anyH_of_ordQ hsel hQ n
    refine ⟨fun fuel listed a w hd hB hS h => ?_, fun _ _ _ _ _ _ _ i hi => by cases hi⟩
    match fuel with
    | 0 => simp [OrdT.depth] at hd
    | fuel + 1 =>
      obtain ⟨o, v, ho, hy, h⟩ := h
      simp only [OrdT.ok, Bool.and_eq_true, Bool.true_and] at hB
      exact wpAnyH_take ho hsel hB.1.2 hB.1.1 (fun c a w => hQ c a o.dst v w) hy hS (ih.1 fuel _ _ w (by simp [OrdT.depth] at hd; omega) hB.2 hS h)
  | .step j n m => by
    have ihn := anyH_of_ordQ hsel hQ n
    have ihm := anyH_of_ordQ hsel hQ m
    have key : ∀ (t : Bool) (fuel : Nat) (listed : Array Bool) (a : Act) (w : World), (OrdT.step j n m).depth ≤ fuel + 1 → (OrdT.step j n m).ok ops t listed = true → ordQ P ops Q S t (.step j n m) a w → ∀ i ∈ (OrdT.step j n m).heads, wpOp P ops Q i (fun a' w' => S w' ∧ wpAnyH P .any ops Q S fuel (listed.setIfInBounds i true) a' w') a w := fun t fuel listed a w hd hB h i hi => by
      simp only [OrdT.ok, Bool.and_eq_true] at hB
      have hd1 : n.depth + 1 ≤ fuel + 1 := Nat.le_trans (Nat.le_max_left _ _) hd
      have hd2 : m.depth ≤ fuel + 1 := Nat.le_trans (Nat.le_max_right _ _) hd
      rcases List.mem_cons.1 hi with rfl | hi
      · obtain ⟨o, ho, h'⟩ := h.1
        exact wpOp_mono (fun a' w' h' => ⟨h'.1, ihn.1 fuel _ a' w' (by omega) hB.1.2 h'.1 h'.2⟩) (wpOp_of_list ho h')
      · exact ihm.2 fuel listed a w hd2 hB.2 h.2 i hi
    refine ⟨fun fuel listed a w hd hB hS h => ?_, fun fuel listed a w hd hB h => key false fuel listed a w hd hB h⟩
    match fuel with
    | 0 => exact absurd (Nat.le_trans (Nat.le_max_left (n.depth + 1) m.depth) hd) (by omega)
    | fuel + 1 =>
      have hB' := hB
      simp only [OrdT.ok, Bool.and_eq_true, Bool.not_true, Bool.false_or, beq_iff_eq] at hB'
      exact wpAnyH_all hB'.1.1 (by simp) (key true fuel listed a w hd hB h)
def ordTOk (ops : Array Oper) (T : OrdT) : Bool := Region.noSelect ops && decide (T.depth ≤ ops.size) && T.ok ops true (Array.replicate ops.size false)
/-- THE REGION -/
theorem wp_region_ordT {id : Nat} {a : Act} {w : World} {l : List Oper} (T : OrdT) (S : World → Prop) (hm : P.follows .mixedOrders = true) (hB : ordTOk l.toArray T = true) (hS : S w.drew)
    (h : ordQ P l.toArray (calm Q) S true T a w.drew) : (Code.region id l.toArray true).wp P Q a w := by
  simp only [ordTOk, Bool.and_eq_true, decide_eq_true_eq] at hB
  exact Code.wp_mono calm_imp (wp_region_held (S := S) hm ((anyH_of_ordQ hB.1.1 (fun _ _ _ _ _ h => h) T).1 _ _ a w.drew hB.1.2 hB.2 hS h))
theorem ordQ_take {i : Nat} {n : OrdT} {a : Act} {w : World} (o : Oper) (v : Value) (ho : ops[i]? = some o) (hw : Region.wanted o (yielded ops a.tmps) = true) (hy : ∀ w, S w → (execOp a.eval o).run P w = .ok (.value v) w)
    (h : ordQ P ops Q S true n (a.put o.dst v) w) : ordQ P ops Q S true (.take i n) a w := ⟨o, v, ho, .inl ⟨hw, hy⟩, h⟩
/-- one whose guard is off -/
theorem ordQ_off {i : Nat} {n : OrdT} {a : Act} {w : World} (o : Oper) (ho : ops[i]? = some o) (hw : Region.wanted o (yielded ops a.tmps) = false)
    (h : ordQ P ops Q S true n (a.put o.dst undef) w) : ordQ P ops Q S true (.take i n) a w := ⟨o, undef, ho, .inr ⟨hw, rfl⟩, h⟩
theorem ordQ_step {t : Bool} {i : Nat} {n m : OrdT} {a : Act} {w : World} (o : Oper) (ho : ops[i]? = some o) (h : wpList P ops (endQ Q fun a w => S w ∧ ordQ P ops Q S true n a w) [o] a w) (hm : ordQ P ops Q S false m a w) : ordQ P ops Q S t (.step i n m) a w := ⟨⟨o, ho, h⟩, hm⟩
theorem ordQ_none {a : Act} {w : World} : ordQ P ops Q S false .none a w := by simp [ordQ]
theorem ordQ_end {a : Act} {w : World} (h : Q .normal a w) : ordQ P ops (calm Q) S true .none a w := by simp only [ordQ, if_true]; exact h
/-- behind a step -/
theorem ordQ_more {n : OrdT} {a : Act} {w : World} (hS : S w) (h : ordQ P ops Q S true n a w) : endQ K' (fun a w => S w ∧ ordQ P ops Q S true n a w) .normal a w := ⟨hS, h⟩
end
end Go.Proofs.Ytjeddokenpkpnaa
