/-
  A region that draws its order: loads whose values stand in every world of a class S are taken first; the other operations then have one order, and each of them leads into S again.
-/
import Derived.Test.YtjeddokenpkpnaaArms
import Derived.OrdersHeld
import Derived.Deep.MidRow
import Derived.RegionTactic
namespace Go.Proofs.Ytjeddokenpkpnaa
open Go Go.RowKit
section
variable {P : Program} {ops : Array Oper} {Q K' : Exit → Act → World → Prop} {S : World → Prop}
/-- the end of a list of operations, told anew -/
def endQ (Q : Exit → Act → World → Prop) (K : Act → World → Prop) : Exit → Act → World → Prop
  | .normal, a, w => K a w
  | e, a, w => Q e a w
theorem upon_end {o : Oper} {a : Act} {K K' : Act → World → Prop} (r : Result Next) (h : Oper.upon P o a K' (endQ Q K) r) : Oper.upon P o a K' Q r := by
  cases r with
  | ok n w' =>
    cases n <;> simp only [Oper.upon] at h ⊢
    all_goals first
      | exact h
      | exact Calls.mono h (fun e w'' he => by
          cases e with
          | returned v => exact he
          | panicked c => exact he
          | outgrown => exact he)
  | halt x w' => cases x <;> simp only [Oper.upon] at h ⊢ <;> exact h
theorem wpOp_of_list {i : Nat} {o : Oper} {K : Act → World → Prop} {a : Act} {w : World} (ho : ops[i]? = some o) (h : wpList P ops (endQ Q K) [o] a w) : wpOp P ops Q i K a w := by
  unfold wpOp
  rw [ho]
  simp only
  unfold wpList at h
  split
  · rename_i hw
    rw [if_pos hw] at h
    rcases h with h | ⟨h1, b, w', h2⟩
    · exact .inl (upon_end _ (Oper.wp_mono (K' := K) (fun a w h => h) h))
    · exact .inr ⟨h1, b, w', h2⟩
  · rename_i hw
    rw [if_neg hw] at h
    exact h
theorem endQ_mk {K : Act → World → Prop} {a : Act} {w : World} (h : K a w) : endQ Q K .normal a w := h
/-- the orders that are left: the operation that comes first, what follows it; the others that may come first -/
inductive Ord
  | none
  | step (i : Nat) (next more : Ord)
def Ord.first : Ord → List Nat
  | .none => []
  | .step i _ m => i :: m.first
def Ord.ok (ops : Array Oper) : Ord → Array Bool → Bool
  | .none, _ => true
  | .step i n m, listed => Region.ready .any ops (listed.setIfInBounds i true) == n.first && n.ok ops (listed.setIfInBounds i true) && m.ok ops listed
def Ord.depth : Ord → Nat
  | .none => 0
  | .step _ n m => max (n.depth + 1) m.depth
def ordP (P : Program) (ops : Array Oper) (Q : Exit → Act → World → Prop) (S : World → Prop) : Ord → Act → World → Prop
  | .none, _, _ => True
  | .step i n m, a, w => (∃ o, ops[i]? = some o ∧ wpList P ops (endQ Q fun a w => S w ∧ (n.first = [] → Q .normal a w) ∧ ordP P ops Q S n a w) [o] a w) ∧ ordP P ops Q S m a w
theorem ordP_none {a : Act} {w : World} : ordP P ops Q S .none a w := trivial
theorem ordP_step {i : Nat} {n m : Ord} {a : Act} {w : World} (o : Oper) (ho : ops[i]? = some o) (h : wpList P ops (endQ Q fun a w => S w ∧ (n.first = [] → Q .normal a w) ∧ ordP P ops Q S n a w) [o] a w) (hm : ordP P ops Q S m a w) : ordP P ops Q S (.step i n m) a w := ⟨⟨o, ho, h⟩, hm⟩
theorem ordP_all : ∀ (T : Ord) (fuel : Nat) (listed : Array Bool) (a : Act) (w : World), (∀ (n : Ord) (fuel : Nat) (listed : Array Bool) (a : Act) (w : World), SizeOf.sizeOf n < SizeOf.sizeOf T → n.depth ≤ fuel → Region.ready .any ops listed = n.first → n.ok ops listed = true → (n.first = [] → Q .normal a w) → ordP P ops Q S n a w → wpAnyH P .any ops Q S fuel listed a w) →
    T.depth ≤ fuel + 1 → T.ok ops listed = true → ordP P ops Q S T a w → ∀ i ∈ T.first, wpOp P ops Q i (fun a' w' => S w' ∧ wpAnyH P .any ops Q S fuel (listed.setIfInBounds i true) a' w') a w
  | .none, _, _, _, _, _, _, _, _, i, hi => by cases hi
  | .step j n m, fuel, listed, a, w, ih, hd, hB, hP, i, hi => by
    simp only [Ord.ok, Bool.and_eq_true, beq_iff_eq] at hB
    have hd1 : n.depth + 1 ≤ fuel + 1 := Nat.le_trans (Nat.le_max_left _ _) hd
    have hd2 : m.depth ≤ fuel + 1 := Nat.le_trans (Nat.le_max_right _ _) hd
    rcases List.mem_cons.1 hi with rfl | hi
    · obtain ⟨o, ho, h⟩ := hP.1
      exact wpOp_mono (fun a' w' h' => ⟨h'.1, ih n fuel _ a' w' (by simp; omega) (by omega) hB.1.1 hB.1.2 h'.2.1 h'.2.2⟩) (wpOp_of_list ho h)
    · exact ordP_all m fuel listed a w (fun n' f l a w hs => ih n' f l a w (by simp; omega)) (by omega) hB.2 hP.2 i hi
theorem anyH_of_ord (T : Ord) (fuel : Nat) (listed : Array Bool) (a : Act) (w : World) (hd : T.depth ≤ fuel) (hr : Region.ready .any ops listed = T.first) (hB : T.ok ops listed = true) (he : T.first = [] → Q .normal a w) (hP : ordP P ops Q S T a w) :
    wpAnyH P .any ops Q S fuel listed a w := by
  match T, fuel with
  | .none, fuel => exact wpAnyH_done (by rw [hr]; rfl) (he rfl) fuel
  | .step i n m, 0 => exact absurd (Nat.le_trans (Nat.le_max_left (n.depth + 1) m.depth) hd) (by omega)
  | .step i n m, fuel + 1 =>
    exact wpAnyH_all hr (by simp [Ord.first]) (ordP_all (.step i n m) fuel listed a w (fun n' f l a w hs => anyH_of_ord n' f l a w) hd hB hP)
termination_by SizeOf.sizeOf T
def takeO (P : Program) (ops : Array Oper) (Q : Exit → Act → World → Prop) (S : World → Prop) (T : Ord) : List Nat → Act → World → Prop
  | [], a, w => (T.first = [] → Q .normal a w) ∧ ordP P ops Q S T a w
  | i :: F, a, w => ∃ o v, ops[i]? = some o ∧ YieldsIf P ops S o v a ∧ takeO P ops Q S T F (a.put o.dst v) w
theorem takeO_cons {i : Nat} {T : Ord} {F : List Nat} {a : Act} {w : World} (o : Oper) (v : Value) (ho : ops[i]? = some o) (hw : Region.wanted o (yielded ops a.tmps) = true) (hy : ∀ w, S w → (execOp a.eval o).run P w = .ok (.value v) w)
    (h : takeO P ops Q S T F (a.put o.dst v) w) : takeO P ops Q S T (i :: F) a w := ⟨o, v, ho, .inl ⟨hw, hy⟩, h⟩
theorem takeO_nil {T : Ord} {a : Act} {w : World} (hT : T.first ≠ []) (h : ordP P ops Q S T a w) : takeO P ops Q S T [] a w := ⟨fun e => absurd e hT, h⟩
def hoistT (ops : Array Oper) (T : Ord) : List Nat → Array Bool → Bool
  | [], listed => Region.ready .any ops listed == T.first && T.ok ops listed
  | i :: F, listed => (Region.ready .any ops listed).contains i && Region.free .any ops listed i && hoistT ops T F (listed.setIfInBounds i true)
theorem anyH_of_takeO (hsel : Region.noSelect ops = true) (hQ : ∀ c a (d : Option Tmp) v w, Q (.panic c) (a.put d v) w → Q (.panic c) a w) (T : Ord) :
    ∀ (F : List Nat) (fuel : Nat) (listed : Array Bool) (a : Act) (w : World), F.length + T.depth ≤ fuel → hoistT ops T F listed = true → S w → takeO P ops Q S T F a w → wpAnyH P .any ops Q S fuel listed a w
  | [], fuel, listed, a, w, hl, hB, _, h => by
    simp only [hoistT, Bool.and_eq_true, beq_iff_eq] at hB
    exact anyH_of_ord T fuel listed a w (by simpa using hl) hB.1 hB.2 h.1 h.2
  | i :: F, 0, _, _, _, hl, _, _, _ => by simp at hl
  | i :: F, fuel + 1, listed, a, w, hl, hB, hS, ⟨o, v, ho, hy, h⟩ => by
    simp only [hoistT, Bool.and_eq_true] at hB
    exact wpAnyH_take ho hsel hB.1.2 hB.1.1 (fun c a w => hQ c a o.dst v w) hy hS (anyH_of_takeO hsel hQ T F fuel _ _ w (by simp at hl; omega) hB.2 hS h)
def hoistTOk (ops : Array Oper) (F : List Nat) (T : Ord) : Bool := Region.noSelect ops && decide (F.length + T.depth ≤ ops.size) && hoistT ops T F (Array.replicate ops.size false)
/-- Q, and no panic -/
def calm (Q : Exit → Act → World → Prop) : Exit → Act → World → Prop
  | .panic _, _, _ => False
  | e, a, w => Q e a w
theorem calm_imp {Q : Exit → Act → World → Prop} : ∀ (e : Exit) (a : Act) (w : World), calm Q e a w → Q e a w := fun e a w h => by
  cases e <;> first | exact h | exact (h : False).elim
/-- THE REGION: F is taken first, then what is left in any of the orders of T -/
theorem wp_region_orders {id : Nat} {a : Act} {w : World} {l : List Oper} (F : List Nat) (T : Ord) (S : World → Prop) (hm : P.follows .mixedOrders = true) (hB : hoistTOk l.toArray F T = true) (hS : S w.drew)
    (h : takeO P l.toArray (calm Q) S T F a w.drew) : (Code.region id l.toArray true).wp P Q a w := by
  simp only [hoistTOk, Bool.and_eq_true, decide_eq_true_eq] at hB
  exact Code.wp_mono calm_imp (wp_region_held (S := S) hm (anyH_of_takeO hB.1.1 (fun _ _ _ _ _ h => h) T F _ _ a w.drew hB.1.2 hB.2 hS h))
/-- what is said behind a step that is not the last one -/
theorem ord_more {n : Ord} {a : Act} {w : World} (hn : n.first ≠ []) (hS : S w) (h : ordP P ops Q S n a w) : endQ K' (fun a w => S w ∧ (n.first = [] → Q .normal a w) ∧ ordP P ops Q S n a w) .normal a w := ⟨hS, fun e => absurd e hn, h⟩
theorem ord_last {a : Act} {w : World} (hS : S w) (h : Q .normal a w) : endQ K' (fun a w => S w ∧ ((Ord.none).first = [] → calm Q .normal a w) ∧ ordP P ops (calm Q) S .none a w) .normal a w := ⟨hS, fun _ => h, trivial⟩
theorem yields_move {a : Act} {type : TypeId} {x : Operand} {pos : String} {after : Array Edge} {gd : Option (Nat × Bool)} {dst : Option Tmp} {v : Value} (hx : a.eval x = v) :
    ∀ w, S w → (execOp a.eval ⟨dst, .move x, type, pos, after, gd⟩).run P w = .ok (.value v) w := by
  intro w _
  subst hx
  rfl
/-- a scalar cell that stands -/
theorem yields_cell {a : Act} {ty type : TypeId} {x : Operand} {pos : String} {after : Array Edge} {gd : Option (Nat × Bool)} {dst : Option Tmp} {p : Addr} {v : Value} (hx : a.eval x = .pointer (some p)) (hc : ∀ w, S w → w.cell? p = some v) {d : TypeDesc} (hu : P.underlying ty = some d) (hd : (match d with | .struct _ | .array _ _ => true | _ => false) = false) :
    ∀ w, S w → (execOp a.eval ⟨dst, .load ty x, type, pos, after, gd⟩).run P w = .ok (.value v) w := by
  intro w hS
  have hl : (loadVar ty p).run P w = .ok v w := by
    have hagg : (isAgg ty).run P w = .ok false w := by
      unfold isAgg
      rw [Sem.run_bind, run_underlying hu w]
      cases d <;> simp_all
    have hc' := hc w hS
    simp [loadVar, Sem.run_bind, hagg, hc', go_sem]
  unfold execOp
  simp only [hx, Instr.loadAt, Instr.sureAddr, Sem.run_bind, Sem.run_pure, Result.andThen_ok, hl]
/-- a whole row that stands -/
theorem yields_row {a : Act} {ty type : TypeId} {x : Operand} {pos : String} {after : Array Edge} {gd : Option (Nat × Bool)} {dst : Option Tmp} {g : Nat} {cs : Array Value} (hx : a.eval x = .pointer (some ⟨g, 0, none⟩)) (hc : ∀ w, S w → ∃ t fr, w.heap[g]? = some (.cells cs t fr)) {d : TypeDesc} (hu : P.underlying ty = some d)
    (hd : (match d with | .struct _ | .array _ _ => true | _ => false) = true) (hi : (P.info? ty).map (·.size) = some cs.size) :
    ∀ w, S w → (execOp a.eval ⟨dst, .load ty x, type, pos, after, gd⟩).run P w = .ok (.value (.agg cs)) w := by
  intro w hS
  obtain ⟨t, fr, hg⟩ := hc w hS
  unfold execOp
  simp only [hx, Instr.loadAt, Instr.sureAddr, Sem.run_bind, Sem.run_pure, Result.andThen_ok, run_loadVar_row w g t ty cs fr d hg hu hd hi]
end
end Go.Proofs.Ytjeddokenpkpnaa
