/-
  A bag in memory; New, Len, Room.
-/
import Derived.Test.YtjeddokenpkpnaaBagA
namespace Go.Proofs.Ytjeddokenpkpnaa
open Go Go.RowKit Go.Proofs Go.Maps
theorem law : Keyed Try.prog 3 := int_keyed Try.underlying3
/-- an element, as it lies there -/
def readV (v : Value) : Option (DataW Value × List MemPlace) := some (.held v, [])
def wfI (x : Int) : Prop := (Lit.int .i64 x).wf = true
theorem hkey {x : Int} (h : wfI x) : keyOf Try.prog 3 (.int .i64 x) = some (.int .i64 x) := keyOf_int_mk Try.underlying3 h
theorem wf_small {x : Int} (h0 : 0 ≤ x) (h1 : x ≤ 1000000) : wfI x := by
  simp [wfI, Lit.wf, IntKind.min, IntKind.max, IntKind.signed, IntKind.bits]; omega
theorem own_tight {w : World} {b n : Nat} {D : DataW Value} (h : w.ownsMap Try.prog 3 readV b n D) : w.ownsMap Try.prog 3 readV b (Maps.size D) D := by
  obtain ⟨es, clock, hb, F, hs, rfl⟩ := h
  exact ⟨es, clock, hb, F, by simp [Maps.size, length_sorted], rfl⟩
theorem own_map_upd {w w' : World} {b n : Nat} {D : DataW Value} {S : List Nat} (h : w.ownsMap Try.prog 3 readV b n D) (u : Upd S w w') (hn : b ∉ S) : w'.ownsMap Try.prog 3 readV b n D := by
  obtain ⟨es, clock, hb, r⟩ := h
  exact ⟨es, clock, u.heap hb hn, r⟩
theorem map_ne {w : World} {b n g : Nat} {D : DataW Value} (h : w.ownsMap Try.prog 3 readV b n D) {C : Array Value} {T : TypeId} {fr : Nat × Nat} (hc : w.heap[g]? = some (.cells C T fr)) : b ≠ g := by
  obtain ⟨es, clock, hb, r⟩ := h
  rintro rfl
  rw [hb] at hc
  cases hc
theorem lit_int_ne {a b : Int} (h : a ≠ b) : Lit.int .i64 a ≠ Lit.int .i64 b := fun e => h (by injection e)
theorem isKey_int (a : Int) : WideAt.IsKeyLit (Lit.int .i64 a) := by first | trivial | simp [WideAt.IsKeyLit]
/-- a message in a bag -/
structure Ent where
  id : Int
  fr : Int
  to : Int
  v : Value
  b : List (BitVec 8)
def Ent.cells (e : Ent) : Array Value := msgC e.id e.fr e.to e.v
def findE (es : List Ent) (x : Int) : Option Ent := es.find? (fun e => decide (e.id = x))
theorem findE_some {es : List Ent} {x : Int} {e : Ent} (h : findE es x = some e) : e ∈ es ∧ e.id = x := by
  have h1 := List.find?_some h
  exact ⟨List.mem_of_find?_eq_some h, by simpa using h1⟩
theorem findE_none {es : List Ent} {x : Int} (h : findE es x = none) : ∀ e ∈ es, e.id ≠ x := by
  intro e he hx
  have := List.find?_eq_none.1 h e he
  simp [hx] at this
theorem findE_push (es : List Ent) (e : Ent) (h : ∀ y ∈ es, y.id < e.id) (x : Int) : findE (es ++ [e]) x = if e.id = x then some e else findE es x := by
  unfold findE
  rw [List.find?_append]
  by_cases hx : e.id = x
  · rw [if_pos hx]
    have : es.find? (fun e => decide (e.id = x)) = none := by
      rw [List.find?_eq_none]
      intro y hy
      have := h y hy
      simp; omega
    rw [this]
    simp [hx]
  · rw [if_neg hx]
    simp [hx]
def dropE (es : List Ent) (x : Int) : List Ent := es.filter (fun e => !decide (e.id = x))
theorem findE_drop (es : List Ent) (x y : Int) : findE (dropE es x) y = if y = x then none else findE es y := by
  unfold findE dropE
  rw [List.find?_filter]
  by_cases h : y = x
  · subst h
    rw [if_pos rfl, List.find?_eq_none]
    intro e _
    simp
  · rw [if_neg h]
    congr 1
    funext e
    by_cases h2 : e.id = y
    · simp [h2, h]
    · simp [h2]
/-- numbers rise -/
def Rise (es : List Ent) : Prop := es.Pairwise (fun a b => a.id < b.id)
theorem length_drop_of : ∀ (es : List Ent) (x : Int) (e : Ent), Rise es → findE es x = some e → (dropE es x).length + 1 = es.length
  | [], _, _, _, h => by cases h
  | a :: r, x, e, hr, h => by
    have hr2 := List.pairwise_cons.1 hr
    by_cases ha : a.id = x
    · have : dropE (a :: r) x = r := by
        unfold dropE
        rw [List.filter_cons, if_neg (by simp [ha]), List.filter_eq_self]
        intro y hy
        have := hr2.1 y hy
        simp; omega
      rw [this]; simp
    · have h2 : findE r x = some e := by
        unfold findE at h ⊢
        rw [List.find?_cons] at h
        simpa [ha] using h
      have := length_drop_of r x e hr2.2 h2
      have h3 : dropE (a :: r) x = a :: dropE r x := by
        unfold dropE
        rw [List.filter_cons, if_pos (by simp [ha])]
      rw [h3]; simp; omega
/-- the map's entries -/
structure MapOf (D : DataW Value) (es : List Ent) : Prop where
  tidy : Tidy D
  has : ∀ x, Maps.has D (.int .i64 x) = (findE es x).isSome
  val : ∀ x e zd, findE es x = some e → D.atKey (.int .i64 x) zd = .held (.agg e.cells)
  size : Maps.size D = es.length
theorem MapOf.push {D : DataW Value} {es : List Ent} (h : MapOf D es) (e : Ent) (hl : ∀ y ∈ es, y.id < e.id) : MapOf (D.put (.int .i64 e.id) (.held (.agg e.cells))) (es ++ [e]) := by
  refine ⟨h.tidy.put (isKey_int _) _, fun x => ?_, fun x y zd hf => ?_, ?_⟩
  · rw [findE_push es e hl]
    by_cases hx : e.id = x
    · subst hx
      rw [has_put_same h.tidy.isMap (isKey_int _), if_pos rfl]
      rfl
    · rw [has_put_other (lit_int_ne (fun e => hx e.symm)), h.has, if_neg hx]
  · rw [findE_push es e hl] at hf
    by_cases hx : e.id = x
    · rw [if_pos hx] at hf
      cases hf
      subst hx
      exact atKey_put_same h.tidy.isMap (isKey_int _) _ _
    · rw [if_neg hx] at hf
      rw [atKey_put_other (lit_int_ne (fun e => hx e.symm))]
      exact h.val x y zd hf
  · have hno : Maps.has D (.int .i64 e.id) = false := by
      rw [h.has]
      cases hq : findE es e.id with
      | none => rfl
      | some y =>
        obtain ⟨h1, h2⟩ := findE_some hq
        have := hl y h1
        omega
    rw [size_put h.tidy, hno, if_neg (by simp), h.size]
    simp
theorem MapOf.drop {D : DataW Value} {es : List Ent} (h : MapOf D es) (hr : Rise es) (x : Int) (e : Ent) (hf : findE es x = some e) : MapOf (D.del (.int .i64 x)) (dropE es x) := by
  refine ⟨h.tidy.del _, fun y => ?_, fun y z zd hf2 => ?_, ?_⟩
  · rw [findE_drop]
    by_cases hx : y = x
    · subst hx
      rw [has_del_same, if_pos rfl]
      rfl
    · rw [has_del_other (lit_int_ne hx), h.has, if_neg hx]
  · rw [findE_drop] at hf2
    by_cases hx : y = x
    · rw [if_pos hx] at hf2; cases hf2
    · rw [if_neg hx] at hf2
      rw [atKey_del_other (lit_int_ne hx)]
      exact h.val y z zd hf2
  · have := size_del (k := .int .i64 x) h.tidy
    rw [h.has, hf, h.size] at this
    have h2 := length_drop_of es x e hr hf
    simp at this
    omega
def bagC (bm : Nat) (last : Int) : Array Value := #[.map (some bm), .int .i64 last]
/-- a bag -/
structure BagAt (w : World) (lo bb bm last : Nat) (es : List Ent) (D : DataW Value) : Prop where
  cells : w.heap[bb]? = some (.cells (bagC bm last) 71 (0, 0))
  map : w.ownsMap Try.prog 3 readV bm es.length D
  of : MapOf D es
  rows : ∀ e ∈ es, OwnB w lo e.v e.b
  apart : es.Pairwise (fun a b => ∀ k, a.v.ownBlock = some k → b.v.ownBlock ≠ some k)
  rise : Rise es
  ids : ∀ e ∈ es, 1 ≤ e.id ∧ e.id ≤ last
  short : ∀ e ∈ es, e.b.length ≤ 1024
  low : lo ≤ bb ∧ lo ≤ bm
  room : es.length ≤ 4096
theorem cells_ne {w : World} {B : Nat} {v : Value} {l : List (BitVec 8)} (h : OwnB w B v l) {g : Nat} {C : Array Value} {T : TypeId} {fr : Nat × Nat} (hg : w.heap[g]? = some (.cells C T fr)) (hT : T ≠ 5) : v.ownBlock ≠ some g := by
  intro hk
  rcases h.2 with ⟨rfl, _⟩ | ⟨k, cap, cur, rfl, _, hb, _⟩
  · cases hk
  · simp [Value.ownBlock] at hk
    subst hk
    rw [hb] at hg
    injection hg with hg
    injection hg with _ hg
    exact hT hg.symm
theorem mapb_ne {w : World} {B : Nat} {v : Value} {l : List (BitVec 8)} (h : OwnB w B v l) {b n : Nat} {D : DataW Value} (hm : w.ownsMap Try.prog 3 readV b n D) : v.ownBlock ≠ some b := by
  intro hk
  rcases h.2 with ⟨rfl, _⟩ | ⟨k, cap, cur, rfl, _, hb, _⟩
  · cases hk
  · simp [Value.ownBlock] at hk
    subst hk
    exact map_ne hm hb rfl
theorem BagAt.lt {w : World} {lo bb bm last : Nat} {es : List Ent} {D : DataW Value} (h : BagAt w lo bb bm last es D) : bb < w.heap.size ∧ bm < w.heap.size := ⟨lt_of_heap h.cells, h.map.lt⟩
theorem BagAt.ne {w : World} {lo bb bm last : Nat} {es : List Ent} {D : DataW Value} (h : BagAt w lo bb bm last es D) : bm ≠ bb := map_ne h.map h.cells
theorem BagAt.upd {w w' : World} {lo bb bm last : Nat} {es : List Ent} {D : DataW Value} {S : List Nat} (h : BagAt w lo bb bm last es D) (u : Upd S w w') (h1 : bb ∉ S) (h2 : bm ∉ S) (h3 : ∀ e ∈ es, ∀ k, e.v.ownBlock = some k → k ∉ S) : BagAt w' lo bb bm last es D :=
  ⟨u.heap h.cells h1, own_map_upd h.map u h2, h.of, fun e he => (h.rows e he).upd u (h3 e he), h.apart, h.rise, h.ids, h.short, h.low, h.room⟩
theorem BagAt.upd0 {w w' : World} {lo bb bm last : Nat} {es : List Ent} {D : DataW Value} (h : BagAt w lo bb bm last es D) (u : Upd [] w w') : BagAt w' lo bb bm last es D := h.upd u (by simp) (by simp) (by simp)
set_option maxRecDepth 100000 in
theorem len_ (w : World) (lo bb bm last : Nat) (es : List Ent) (D : DataW Value) (h : BagAt w lo bb bm last es D) :
    Calls Try.prog 13 #[.pointer (some ⟨bb, 0, none⟩)] w fun e w' => e = .returned (.int .i64 es.length) ∧ w' = w := by
  have hc : w.cell? ⟨bb, 0, none⟩ = some (.map (some bm)) := by rw [cell_of_row _ _ _ _ _ _ h.cells]; rfl
  have hm := h.map
  have hs := h.of.size
  clear h
  go_enter Try.func13, Try.ntmps13
  go_wp2_with (at_len; refine wpList_len_own _ rfl _ 67 rfl 3 32 Try.underlying67 readV bm es.length D (by with_unfolding_all exact rfl) hm ?_)
  go_ret
  exact ⟨rfl, rfl⟩
set_option maxRecDepth 100000 in
theorem room_ (w : World) (lo bb bm last : Nat) (es : List Ent) (D : DataW Value) (h : BagAt w lo bb bm last es D) :
    Calls Try.prog 18 #[.pointer (some ⟨bb, 0, none⟩)] w fun e w' => e = .returned (.int .i64 (4096 - (es.length : Int))) ∧ w' = w := by
  have h4 : (es.length : Int) ≤ 4096 := by have := h.room; omega
  have H := Lib.hid h
  clear h
  go_enter Try.func18, Try.ntmps18
  go_wp2_with (fail)
  refine (len_ _ _ _ _ _ _ _ H.out).mono ?_
  rintro e w' ⟨rfl, rfl⟩
  go_wp2_with (fail)
  go_ret
  exact ⟨rfl, rfl⟩
theorem size_ptr1 : (Try.prog.info? 25).map (·.size) = some 1 := by kernel_rfl
theorem built_store (bm : Nat) : Try.prog.built 69 [(0, .map (some bm))] = some (bagC bm 0) := by kernel_rfl
theorem built_bag (bm : Nat) : Try.prog.built 71 [(0, .agg (bagC bm 0))] = some (bagC bm 0) := by kernel_rfl
theorem arm_build1 {P : Program} {ops : Array Oper} {rest : List Oper} {a : Act} {w : World} {Q : Exit → Act → World → Prop} {dst : Option Tmp} {ty type : TypeId} {pos : String} {after : Array Edge} {x0 : Operand} {v0 : Value} {cs : Array Value}
    (h0 : a.eval x0 = v0) (hf : P.built ty [(0, v0)] = some cs) (h : wpList P ops Q rest (a.put dst (.agg cs)) w) : wpList P ops Q (⟨dst, .build ty #[(0, x0)], type, pos, after, none⟩ :: rest) a w := by
  subst h0
  exact arm_build (by simpa using hf) h
set_option maxRecDepth 100000 in
theorem new_ (w : World) :
    Calls Try.prog 8 #[] w fun e w' => ∃ bb bm D, e = .returned (.pointer (some ⟨bb, 0, none⟩)) ∧ BagAt w' w.heap.size bb bm 0 [] D ∧ Upd [] w w' := by
  have hbt := built_store w.heap.size
  have hbb := built_bag w.heap.size
  have hown : Hid ((w.alloc (.map #[] 0)).ownsMap Try.prog 3 readV w.heap.size 0 (.map [])) := World.ownsMap_made _ _ _ _
  have HUa : Hid (Upd [] w (w.alloc (.map #[] 0))) := (Upd.refl _ w).alloc _
  have hmm := @run_makeMap Try.prog
  go_enter Try.func8, Try.ntmps8
  go_wp2_with (first
    | (with_reducible refine arm_build1 (by with_unfolding_all exact rfl) hbt ?_)
    | (with_reducible refine arm_build1 (by with_unfolding_all exact rfl) hbb ?_)
    | (with_reducible refine arm_box (by with_unfolding_all exact rfl) ?_))
  intro bw w2 hb2 k2 hU2 hz2
  change w2.heap[bw]? = some (.cells (bagC w.heap.size 0) 71 (0, 0)) at k2
  go_wp2_with (fail)
  go_ret
  refine ⟨bw, w.heap.size, .map [], rfl, ⟨k2, own_map_upd hown.out hU2 (by simp), ⟨tidy_empty, fun k => rfl, fun x e zd hf => (by cases hf), rfl⟩, (by simp), .nil, .nil, (by simp), (by simp), ⟨by have := HUa.out.size; omega, Nat.le_refl _⟩, by simp⟩, HUa.out.trans hU2⟩
end Go.Proofs.Ytjeddokenpkpnaa
