/-
  What a bag must hold: Play, in plain lists and in memory; there, laid.
-/
import Derived.Test.YtjeddokenpkpnaaBagU
namespace Go.Proofs.Ytjeddokenpkpnaa
open Go Go.RowKit Go.Proofs Go.Maps
/-- those that were not taken -/
def kept : List Ent → List Bool → List Ent
  | a :: r, b :: s => if b then kept r s else a :: kept r s
  | _, _ => []
theorem kept_sub : ∀ (al : List Ent) (tk : List Bool), ∀ x ∈ kept al tk, x ∈ al
  | [], _, x, h => by simp [kept] at h
  | a :: r, [], x, h => by simp [kept] at h
  | a :: r, b :: s, x, h => by
    unfold kept at h
    split at h
    · exact List.mem_cons_of_mem _ (kept_sub r s x h)
    · rcases List.mem_cons.1 h with rfl | h
      · simp
      · exact List.mem_cons_of_mem _ (kept_sub r s x h)
theorem kept_push : ∀ (al : List Ent) (tk : List Bool) (a : Ent), tk.length = al.length → kept (al ++ [a]) (tk ++ [false]) = kept al tk ++ [a]
  | [], [], a, _ => by simp [kept]
  | [], _ :: _, _, h => by simp at h
  | _ :: _, [], _, h => by simp at h
  | x :: r, b :: s, a, h => by
    have ih := kept_push r s a (by simpa using h)
    cases b with
    | true => simpa [kept] using ih
    | false => simpa [kept] using ih
theorem dropE_none {es : List Ent} {x : Int} (h : ∀ e ∈ es, e.id ≠ x) : dropE es x = es := by
  unfold dropE
  rw [List.filter_eq_self]
  intro e he
  simp [h e he]
theorem kept_set : ∀ (al : List Ent) (tk : List Bool) (j : Nat) (hj : j < al.length), tk.length = al.length → Rise al → kept al (tk.set j true) = dropE (kept al tk) al[j].id
  | a :: r, b :: s, 0, hj, h, hr => by
    have h1 := List.pairwise_cons.1 hr
    have h2 : ∀ e ∈ kept r s, e.id ≠ a.id := fun e he => by have := h1.1 e (kept_sub r s e he); omega
    cases b with
    | true => simp [kept, dropE_none h2]
    | false =>
      simp only [List.set_cons_zero, kept, if_true, Bool.false_eq_true, if_false, List.getElem_cons_zero]
      rw [show dropE (a :: kept r s) a.id = dropE (kept r s) a.id from by simp [dropE], dropE_none h2]
  | a :: r, b :: s, j + 1, hj, h, hr => by
    have h1 := List.pairwise_cons.1 hr
    have hj' : j < r.length := by simpa using hj
    have ih := kept_set r s j hj' (by simpa using h) h1.2
    have hne : a.id ≠ r[j].id := by have := h1.1 r[j] (List.getElem_mem hj'); omega
    cases b with
    | true => simpa [kept] using ih
    | false =>
      simp only [List.set_cons_succ, kept, Bool.false_eq_true, if_false, List.getElem_cons_succ]
      rw [ih]
      unfold dropE
      rw [List.filter_cons, if_pos (by simp [hne])]
  | [], _, _, hj, _, _ => by simp at hj
  | _ :: _, [], _, _, h, _ => by simp at h
theorem find_kept : ∀ (al : List Ent) (tk : List Bool) (j : Nat) (hj : j < al.length) (hk : j < tk.length), Rise al → findE (kept al tk) al[j].id = if tk[j] then none else some al[j]
  | a :: r, b :: s, 0, hj, hk, hr => by
    have h1 := List.pairwise_cons.1 hr
    cases b with
    | true =>
      simp only [kept, if_true, List.getElem_cons_zero]
      unfold findE
      rw [List.find?_eq_none]
      intro e he
      have := h1.1 e (kept_sub r s e he)
      simp; omega
    | false => simp [kept, findE]
  | a :: r, b :: s, j + 1, hj, hk, hr => by
    have h1 := List.pairwise_cons.1 hr
    have hj' : j < r.length := by simpa using hj
    have ih := find_kept r s j hj' (by simpa using hk) h1.2
    have hne : a.id ≠ r[j].id := by have := h1.1 r[j] (List.getElem_mem hj'); omega
    cases b with
    | true => simpa [kept] using ih
    | false =>
      simp only [kept, Bool.false_eq_true, if_false, List.getElem_cons_succ]
      rw [← ih]
      unfold findE
      rw [List.find?_cons, show decide (a.id = r[j].id) = false by simp [hne]]
  | [], _, _, hj, _, _ => by simp at hj
  | _ :: _, [], _, _, hk, _ => by simp at hk
theorem find_kept_out {al : List Ent} {tk : List Bool} {x : Int} (h : ∀ e ∈ al, e.id ≠ x) : findE (kept al tk) x = none := by
  unfold findE
  rw [List.find?_eq_none]
  intro e he
  have := h e (kept_sub al tk e he)
  simp [this]
theorem count_out {al : List Ent} (h : Count al) {x : Int} (hx : x < 1 ∨ (al.length : Int) < x) : ∀ e ∈ al, e.id ≠ x := fun e he => by
  obtain ⟨j, hj, rfl⟩ := List.getElem_of_mem he
  rw [h j hj]; omega
/-- alike, but for where the bodies lie -/
theorem find_core : ∀ {es ks : List Ent} (_ : es.map Ent.core = ks.map Ent.core) (x : Int), (findE es x).map Ent.core = (findE ks x).map Ent.core
  | [], [], _, _ => rfl
  | [], _ :: _, h, _ => by simp at h
  | _ :: _, [], h, _ => by simp at h
  | e :: es, k :: ks, h, x => by
    simp only [List.map_cons, List.cons.injEq] at h
    have hid : e.id = k.id := congrArg (fun p => p.1) h.1
    unfold findE
    rw [List.find?_cons, List.find?_cons, hid]
    by_cases hx : k.id = x
    · simp [hx, h.1]
    · simp only [hx, decide_false]
      exact find_core h.2 x
theorem drop_core : ∀ {es ks : List Ent} (_ : es.map Ent.core = ks.map Ent.core) (x : Int), (dropE es x).map Ent.core = (dropE ks x).map Ent.core
  | [], [], _, _ => rfl
  | [], _ :: _, h, _ => by simp at h
  | _ :: _, [], h, _ => by simp at h
  | e :: es, k :: ks, h, x => by
    simp only [List.map_cons, List.cons.injEq] at h
    have hid : e.id = k.id := congrArg (fun p => p.1) h.1
    have ih := drop_core h.2 x
    unfold dropE at ih ⊢
    rw [List.filter_cons, List.filter_cons, hid]
    by_cases hx : k.id = x
    · simpa [hx] using ih
    · simpa [hx, h.1] using ih
theorem core_find {es ks : List Ent} (h : es.map Ent.core = ks.map Ent.core) (x : Int) : (findE es x = none ↔ findE ks x = none) ∧ (∀ e k, findE es x = some e → findE ks x = some k → e.core = k.core) := by
  have := find_core h x
  constructor
  · cases h1 : findE es x <;> cases h2 : findE ks x <;> simp [h1, h2] at this ⊢
  · intro e k h1 h2
    simpa [h1, h2] using this
def playC (va vt : Value) (here : Int) : Array Value := #[va, vt, .int .i64 here]
/-- Play in memory -/
structure PlayAt (w : World) (lo bp : Nat) (va vt : Value) (here : Nat) (al : List Ent) (tk : List Bool) : Prop where
  cells : w.heap[bp]? = some (.cells (playC va vt here) 58 (0, 0))
  all : OwnM w lo va al
  tks : OwnL w lo vt tk
  len : tk.length = al.length
  count : Count al
  low : lo ≤ bp
  short : ∀ a ∈ al, a.b.length ≤ 1024
  small : al.length ≤ 9300
theorem PlayAt.upd {w w' : World} {lo bp : Nat} {va vt : Value} {here : Nat} {al : List Ent} {tk : List Bool} {S : List Nat} (h : PlayAt w lo bp va vt here al tk) (u : Upd S w w') (h1 : bp ∉ S) (h2 : ∀ k, footM va al k → k ∉ S) (h3 : ∀ k, vt.ownBlock = some k → k ∉ S) : PlayAt w' lo bp va vt here al tk :=
  ⟨u.heap h.cells h1, h.all.upd u h2, OwnA.upd h.tks u h3, h.len, h.count, h.low, h.short, h.small⟩
theorem PlayAt.upd0 {w w' : World} {lo bp : Nat} {va vt : Value} {here : Nat} {al : List Ent} {tk : List Bool} (h : PlayAt w lo bp va vt here al tk) (u : Upd [] w w') : PlayAt w' lo bp va vt here al tk := h.upd u (by simp) (by simp) (by simp)
theorem block_ne {w : World} {a b : Nat} {C C' : Array Value} {T T' : TypeId} {fr fr' : Nat × Nat} (h : w.heap[a]? = some (.cells C T fr)) (k : w.heap[b]? = some (.cells C' T' fr')) (hT : T ≠ T') : a ≠ b := heap_ne h k hT
theorem own_type {w : World} {B sz n : Nat} {e : TypeId} {v : Value} {xs : List Value} (h : w.ownsRow B e sz v n xs) {k : Nat} (hk : v.ownBlock = some k) : ∃ C fr, w.heap[k]? = some (.cells C e fr) := by
  rcases h.2 with ⟨rfl, _⟩ | ⟨g, cap, cur, rfl, _, hb, _⟩
  · cases hk
  · simp only [Value.ownBlock, Option.some.injEq] at hk
    subst hk
    exact ⟨_, _, hb⟩
/-- a block that is no part of a bag -/
def NoBag (w : World) (k : Nat) : Prop := ∃ C T fr, w.heap[k]? = some (.cells C T fr) ∧ T ≠ 71 ∧ T ≠ 5
theorem BagAt.off {w w' : World} {lo bb bm last : Nat} {es : List Ent} {D : DataW Value} {S : List Nat} (h : BagAt w lo bb bm last es D) (u : Upd S w w') (hS : ∀ k ∈ S, NoBag w k) : BagAt w' lo bb bm last es D := by
  refine h.upd u (fun hm => ?_) (fun hm => ?_) (fun e he k hk hm => ?_)
  · obtain ⟨C, T, fr, h1, h2, _⟩ := hS bb hm; exact heap_ne h1 h.cells h2 rfl
  · obtain ⟨C, T, fr, h1, _⟩ := hS bm hm; exact map_ne h.map h1 rfl
  · obtain ⟨C, T, fr, h1, _, h3⟩ := hS k hm; exact cells_ne (h.rows e he) h1 h3 hk
/-- what a bag's call writes is no part of Play -/
theorem PlayAt.bag {w w' : World} {lo bp : Nat} {va vt : Value} {here : Nat} {al : List Ent} {tk : List Bool} (h : PlayAt w lo bp va vt here al tk) {lo' bb bm last : Nat} {es : List Ent} {D : DataW Value} (hb : BagAt w lo' bb bm last es D) (u : Upd [bb, bm] w w') : PlayAt w' lo bp va vt here al tk := by
  have key : ∀ k C T fr, w.heap[k]? = some (.cells C T fr) → T ≠ 71 → k ∉ [bb, bm] := fun k C T fr h1 h2 hm => by
    simp only [List.mem_cons, List.not_mem_nil, or_false] at hm
    rcases hm with rfl | rfl
    · exact heap_ne h1 hb.cells h2 rfl
    · exact map_ne hb.map h1 rfl
  refine h.upd u (key bp _ _ _ h.cells (by decide)) (fun k hk => ?_) (fun k hk => ?_)
  · rcases hk with hk | ⟨t, ht, hk⟩
    · obtain ⟨C, fr, h1⟩ := own_type h.all.row.2 hk; exact key k _ _ _ h1 (by decide)
    · obtain ⟨C, fr, h1⟩ := own_type (h.all.bodies t ht) hk; exact key k _ _ _ h1 (by decide)
  · obtain ⟨C, fr, h1⟩ := own_type h.tks.2 hk; exact key k _ _ _ h1 (by decide)
set_option maxRecDepth 100000 in
set_option maxHeartbeats 3200000 in
theorem there_ (w : World) (lo bp : Nat) (va vt : Value) (here : Nat) (al : List Ent) (tk : List Bool) (h : PlayAt w lo bp va vt here al tk) (x : Int) (hx : wfI x) :
    Calls Try.prog 26 #[.pointer (some ⟨bp, 0, none⟩), .int .i64 x] w fun e w' => e = .returned (.bool (findE (kept al tk) x).isSome) ∧ Upd [] w w' := by
  obtain ⟨A, c, eA⟩ := OwnA.isSlice h.all.row
  obtain ⟨B, d, eB⟩ := OwnA.isSlice h.tks
  rw [List.length_map] at eA eB
  subst eA eB
  have c0 : w.cell? ⟨bp, 0, none⟩ = some (.slice A al.length c) := by rw [cell_of_row _ _ _ _ _ _ h.cells]; rfl
  have c1 : w.cell? ⟨bp, 1, none⟩ = some (.slice B tk.length d) := by rw [cell_of_row _ _ _ _ _ _ h.cells]; rfl
  have hn : (al.length : Int) ≤ 9300 := by have := h.small; omega
  by_cases h1 : x < 1
  · have e1 : decide ((1 : Int) ≤ x) = false := by simp; omega
    rw [find_kept_out (count_out h.count (.inl h1))]
    clear h h1
    go_enter Try.func26, Try.ntmps26
    go_wp2_with (fail)
    go_ret
    exact ⟨rfl, Upd.refl _ _⟩
  · have e1 : decide ((1 : Int) ≤ x) = true := by simp; omega
    by_cases h2 : (al.length : Int) < x
    · have e2 : decide (x ≤ (al.length : Int)) = false := by simp; omega
      rw [find_kept_out (count_out h.count (.inr h2))]
      clear h h1 h2
      go_enter Try.func26, Try.ntmps26
      go_wp2_with (fail)
      go_ret
      exact ⟨rfl, Upd.refl _ _⟩
    · have e2 : decide (x ≤ (al.length : Int)) = true := by simp; omega
      obtain ⟨j, hj⟩ : ∃ j : Nat, x = (j : Int) + 1 := ⟨(x - 1).toNat, by omega⟩
      have hjl : j < al.length := by omega
      have hjt : j < tk.length := by rw [h.len]; exact hjl
      have hf := find_kept al tk j hjl hjt h.count.rise
      rw [h.count j hjl] at hf
      subst hj
      rw [hf]
      obtain ⟨g, cap, cur, e, rA⟩ := OwnA.at h.tks (by rw [List.length_map]; omega)
      injection e with e e3 e4
      clear e3 e4 rA
      subst e
      have hc := OwnL.cell h.tks j hjt
      have hjb : (j : Int) < (tk.length : Int) := by omega
      have hji : (j : Int) ≤ 9300 := by omega
      have hj1 : (1 : Int) ≤ (j : Int) + 1 := by omega
      have hj2 : (j : Int) + 1 ≤ (al.length : Int) := by omega
      obtain ⟨n, hnn⟩ : ∃ n, al.length = n := ⟨_, rfl⟩
      rw [h.len, hnn] at c1
      rw [hnn] at c0 hn hj2
      rw [h.len, hnn] at hjb
      have e1' : decide ((1 : Int) ≤ (j : Int) + 1) = true := by simp; omega
      have e2' : decide ((j : Int) + 1 ≤ (n : Int)) = true := by simp; omega
      have hres : (if tk[j] = true then none else some al[j]).isSome = !tk[j] := by cases tk[j] <;> rfl
      rw [hres]
      obtain ⟨b, hb⟩ : ∃ b, tk[j] = b := ⟨_, rfl⟩
      rw [hb] at hc ⊢
      clear h h1 h2 hf e1 e2 hnn hres hb hjt hjl hx hj1 hj2 hn
      have hjj : (0 : Int) ≤ (j : Int) := by omega
      cases b with
      | true =>
        go_enter Try.func26, Try.ntmps26
        go_wp2_with (fail)
        go_ret
        exact ⟨rfl, Upd.refl _ _⟩
      | false =>
        go_enter Try.func26, Try.ntmps26
        go_wp2_with (fail)
        go_ret
        exact ⟨rfl, Upd.refl _ _⟩
end Go.Proofs.Ytjeddokenpkpnaa
