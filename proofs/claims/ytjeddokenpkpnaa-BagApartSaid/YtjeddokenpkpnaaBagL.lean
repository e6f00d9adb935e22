/-
  The numbers of a bag, rising.
-/
import Derived.Test.YtjeddokenpkpnaaBagH
import Derived.Test.YtjeddokenpkpnaaRowsG
import Derived.Test.YtjeddokenpkpnaaSort
namespace Go.Proofs.Ytjeddokenpkpnaa
open Go Go.RowKit Go.Proofs Go.Maps
theorem eltI : ElemT Try.prog 23 3 1 8 (.int .i64 0) := .mk' Try.underlying23 (by kernel_rfl) rfl (by omega) (by omega)
theorem eltM : ElemT Try.prog 33 32 4 48 (.agg (msgC 0 0 0 (.slice none 0 0))) := .mk' Try.underlying33 (by kernel_rfl) rfl (by omega) (by omega)
def icell (x : Int) : Cs := [.int .i64 x]
def OwnI (w : World) (B : Nat) (v : Value) (l : List Int) : Prop := OwnA w B 3 1 v (l.map icell)
theorem icell_flat (l : List Int) : (l.map icell).flatten = l.map (Value.int .i64) := by
  induction l with
  | nil => rfl
  | cons x r ih => simp only [List.map_cons, List.flatten_cons, ih, icell, List.singleton_append]
theorem OwnI.own {w : World} {B : Nat} {v : Value} {l : List Int} (h : OwnI w B v l) : w.ownsRow B 3 1 v l.length (l.map (Value.int .i64)) := by
  have := h.2
  rwa [icell_flat, List.length_map] at this
theorem OwnI.of {w : World} {B : Nat} {v : Value} {l : List Int} (h : w.ownsRow B 3 1 v l.length (l.map (Value.int .i64))) : OwnI w B v l := by
  refine ⟨fun x hx => ?_, ?_⟩
  · obtain ⟨y, _, rfl⟩ := List.mem_map.1 hx; rfl
  · rwa [icell_flat, List.length_map]
/-- one int, laid into a new block -/
theorem bsI {ops : Array Oper} {rest : List Oper} {a : Act} {w : World} {Q : Exit → Act → World → Prop} {dst : Option Tmp} {type : TypeId} {pos : String} {after : Array Edge} {x1 : Operand} {y : Int} (h1 : a.eval x1 = .int .i64 y)
    (h : ∀ g w', w.heap.size = g → w'.heap[g]? = some (.cells (icell y).toArray 3 (0, 0)) → Upd [] w w' → wpList Try.prog ops Q rest (a.put dst (.slice (some ⟨g, 0, none⟩) 1 1)) w') :
    wpList Try.prog ops Q (⟨dst, .buildSlice 23 1 #[(0, x1)], type, pos, after, none⟩ :: rest) a w := by
  obtain ⟨i, hi, hz, hs, _⟩ := eltI.hi
  exact arm_bs1 Try.underlying23 hi hs hz rfl h1 rfl h
theorem appendI {ops : Array Oper} {rest : List Oper} {a : Act} {w : World} {Q : Exit → Act → World → Prop} {dst : Option Tmp} {type : TypeId} {pos : String} {after : Array Edge} {s x : Operand} {B g : Nat} {v : Value} {l : List Int} {y : Int} {T : TypeId} {fr : Nat × Nat}
    (hs : a.eval s = v) (hx : a.eval x = .slice (some ⟨g, 0, none⟩) 1 1) (hown : OwnI w B v l) (hg : w.heap[g]? = some (.cells (icell y).toArray T fr)) (hl : l.length ≤ 1000000) (hbase : B ≤ w.heap.size)
    (h : ∀ v' w', OwnI w' B v' (l ++ [y]) → Upd v.ownBlock.toList w w' → (v'.ownBlock = v.ownBlock ∨ v'.ownBlock = some w.heap.size) → wpList Try.prog ops Q rest (a.put dst v') w') :
    wpList Try.prog ops Q (⟨dst, .call { callee := .builtin .append, args := #[s, x], argTypes := #[23, 23] }, type, pos, after, none⟩ :: rest) a w :=
  appendA eltI hs hx hown hg rfl (fun u hu => by rw [List.mem_singleton.1 hu]; rfl) (by rw [List.length_map]; exact hl) (by omega) hbase (fun v' w' h1 h2 h3 => h v' w' (by unfold OwnI; rw [List.map_append]; exact h1) h2 h3)
theorem ranges_upd {w w' : World} {b r n cnt : Nat} {D : DataW Value} {left : Lit → Bool} {S : List Nat} (h : w.ranges Try.prog 3 readV b r n D left cnt) (u : Upd S w w') (hb : b ∉ S) (hr : r ∉ S) : w'.ranges Try.prog 3 readV b r n D left cnt := by
  obtain ⟨es, clock, since, seen, c0, h1, F, hs, hD, h2, rest⟩ := h
  exact ⟨es, clock, since, seen, c0, u.heap h1 hb, F, hs, hD, u.heap h2 hr, rest⟩
/-- what stands sorted is sorted to itself -/
theorem sorted_of {l ss : List Int} (hl : l.Pairwise (· < ·)) (hn : ss.Nodup) (hm : ∀ x, x ∈ ss ↔ x ∈ l) : (ss.mergeSort fun x y => decide (x ≤ y)) = l := by
  have tr : ∀ a b c : Int, decide (a ≤ b) = true → decide (b ≤ c) = true → decide (a ≤ c) = true := fun a b c h1 h2 => by simp only [decide_eq_true_eq] at *; omega
  have to : ∀ a b : Int, (decide (a ≤ b) || decide (b ≤ a)) = true := fun a b => by simp only [Bool.or_eq_true, decide_eq_true_eq]; omega
  have hp : ss.Perm l := (List.perm_ext_iff_of_nodup hn (hl.imp (fun h => by omega))).2 hm
  refine List.Perm.eq_of_pairwise (le := fun a b => decide (a ≤ b) = true) (fun a b _ _ h1 h2 => ?_) (List.pairwise_mergeSort tr to ss) (hl.imp (fun h => by simp; omega)) ((List.mergeSort_perm ss _).trans hp)
  simp only [decide_eq_true_eq] at h1 h2
  omega
theorem nodup_le : ∀ (l m : List Int), l.Nodup → (∀ x ∈ l, x ∈ m) → l.length ≤ m.length
  | [], _, _, _ => by simp
  | x :: r, m, hn, hs => by
    have h1 := List.nodup_cons.1 hn
    have hx := hs x (by simp)
    have h2 := nodup_le r (m.erase x) h1.2 (fun y hy => (List.mem_erase_of_ne (fun e => h1.1 (by rw [← e]; exact hy))).2 (hs y (List.mem_cons_of_mem _ hy)))
    rw [List.length_erase_of_mem hx] at h2
    have := List.length_pos_of_mem hx
    simp; omega
set_option maxRecDepth 100000 in
set_option maxHeartbeats 3200000 in
theorem numbers_ (w : World) (lo bb bm last : Nat) (es : List Ent) (D : DataW Value) (h : BagAt w lo bb bm last es D) :
    Calls Try.prog 31 #[.pointer (some ⟨bb, 0, none⟩)] w fun e w' => ∃ v', e = .returned v' ∧ OwnI w' w.heap.size v' (es.map (·.id)) ∧ Upd [] w w' := by
  have c0 : w.cell? ⟨bb, 0, none⟩ = some (.map (some bm)) := by rw [cell_of_row _ _ _ _ _ _ h.cells]; rfl
  have hm := h.map
  have HO := Lib.hid h.of
  have HR := Lib.hid h.rise
  have HM4 : Hid (es.length ≤ 4096) := h.room
  have HBM : Hid (bm < w.heap.size) := h.lt.2
  clear h
  go_enter Try.func31, Try.ntmps31
  go_wp2_with (at_range; refine wpList_range_own _ rfl _ 67 rfl 3 32 law Try.underlying67 readV bm _ D (by with_unfolding_all exact rfl) hm ?_; intro w1 hrg1 hg1 hs1)
  obtain ⟨rb, hrb⟩ : ∃ r, w.heap.size = r := ⟨_, rfl⟩
  rw [hrb] at hrg1 ⊢
  have hU1 : Upd [] w w1 := (Upd.refl _ w).grown hg1 (fun k hk => by cases hk)
  have HRB : Hid (w.heap.size = rb ∧ rb < w1.heap.size) := ⟨hrb, by omega⟩
  clear hm c0 hg1 hs1 hrb
  go_frame
  have HU1 := Lib.hid hU1
  have HRG1 := Lib.hid hrg1
  clear hU1 hrg1
  go_loopw [3, 4] (fun av kv wr => ∃ (left : Lit → Bool) (cnt : Nat) (ss : List Int), OwnI wr (rb + 1) av ss ∧ wr.ranges Try.prog 3 readV bm rb es.length D left cnt ∧ ss.Nodup ∧ (∀ x, x ∈ ss ↔ Maps.has D (.int .i64 x) = true ∧ left (.int .i64 x) = false) ∧ (∀ kl, left kl = true → Maps.has D kl = true) ∧ ss.length ≤ 4096 ∧ Upd [] w wr) (fun _ _ wr => wr.rangeLeft bm rb)
  case atStart => exact ⟨_, _, [], OwnA.nil _ _ _ _, HRG1.out, .nil, fun x => by simp, fun kl h => h, by simp, HU1.out⟩
  case round =>
    obtain ⟨left, cnt, ss, hown, hrg, hnd, hmem, hlf, hlen, hU⟩ := hrel
    have HND := Lib.hid hnd
    have HMEM := Lib.hid hmem
    have HLF := Lib.hid hlf
    have HLEN : Hid (ss.length ≤ 4096) := hlen
    have HU := Lib.hid hU
    have HRG := Lib.hid hrg
    have HOWN := Lib.hid hown
    clear hnd hmem hlf hU hown hlen
    go_wp2_with (at_next; refine wpList_next_ranges (α := Int) (β := Value) _ rfl _ rfl 3 law readV (Value.int .i64) id (fun key kl hkey => by obtain ⟨x, rfl, _⟩ := Maps.keyOf_int_inv Try.underlying3 hkey; exact ⟨x, rfl⟩) (fun v y hv => ⟨v, rfl⟩) bm rb _ D left cnt (by with_unfolding_all exact rfl) hrg ?_ ?_)
    · intro h0 hl0
      have HS : Hid ((ss.mergeSort fun x y => decide (x ≤ y)) = es.map (·.id)) := by
        refine sorted_of (List.pairwise_map.2 HR.out) HND.out (fun x => ?_)
        rw [HMEM.out, hl0, HO.out.has]
        simp only [and_true]
        constructor
        · intro hx
          cases hq : findE es x with
          | none => rw [hq] at hx; cases hx
          | some y => obtain ⟨h1, h2⟩ := findE_some hq; exact List.mem_map.2 ⟨y, h1, h2⟩
        · intro hx
          obtain ⟨y, hy, rfl⟩ := List.mem_map.1 hx
          cases hq : findE es y.id with
          | none => exact absurd rfl (findE_none hq y hy)
          | some _ => rfl
      clear hl0 h0 hrg
      rcases Nat.eq_zero_or_pos ss.length with hs0 | hs0
      · have hnil : ss = [] := List.eq_nil_of_length_eq_zero hs0
        subst hnil
        have he : es.map (·.id) = [] := by rw [← HS.out]; exact List.mergeSort_nil
        obtain ⟨A, c, e⟩ := HOWN.out.isSlice
        have e' : u3 = .slice A 0 c := e
        subst e'
        clear e hs0
        go_wp2_with (fail)
        refine (Try.slices_Sort_none _ _ _).mono ?_
        rintro e w3 ⟨rfl, rfl⟩
        go_wp2_with (fail)
        go_ret
        exact ⟨_, rfl, by rw [he]; exact HOWN.out.mono (fun k hk => by have := (HOWN.out.lt k hk).1; have := HRB.out; omega), HU.out⟩
      · obtain ⟨g, cap, cur, e, hg1, hg2, hg3, hg4, hg5, hg6⟩ := HOWN.out.at (by simpa using hs0)
        rw [List.length_map] at e hg3
        rw [icell_flat, List.length_map, Nat.mul_one] at hg6
        subst e
        have HH : Hid (Go.Sort.Holds (Value.int .i64) wr g 0 ss.toArray) := holds_of_blockI hg2 hg6
        have hgl : g < wr.heap.size := lt_of_heap hg2
        have HG : Hid (rb + 1 ≤ g) := hg1
        have HX : Hid (wr.heap[g]? = some (.cells cur 3 (0, 0)) ∧ ss.length ≤ cap ∧ cap ≤ maxLen ∧ cur.size = cap * 1) := ⟨hg2, hg3, hg4, hg5⟩
        clear hg1 hg2 hg3 hg4 hg5 hg6 hs0
        go_wp2_with (fail)
        refine (Try.slices_Sort_int g 0 cap ss wr HH.out hgl (by have := HLEN.out; omega)).mono ?_
        rintro e w3 ⟨rfl, n, os, hw3⟩
        have hgb : wr.grownBy w3 (some g) := by rw [hw3]; exact grownBy_sortedI _
        have hrow := ownsRow_sortedI (n := n) (os := os) (ss := ss) (ts := ss.mergeSort fun x y => decide (x ≤ y)) (List.length_mergeSort ss) HG.out HX.out.1 HX.out.2.1 HX.out.2.2.1 HX.out.2.2.2
        rw [← hw3, HS.out] at hrow
        have HROW : Hid (w3.ownsRow (rb + 1) 3 1 (.slice (some ⟨g, 0, none⟩) ss.length cap) ss.length ((es.map (·.id)).map (Value.int .i64))) := hrow
        have HL : Hid ((es.map (·.id)).length = ss.length) := by rw [← HS.out]; exact List.length_mergeSort ss
        have HU3 : Hid (Upd [] w w3) := HU.out.grown hgb (fun k hk hl => by cases hk; have := HG.out; have := HRB.out; omega)
        clear hgb hrow hw3 hgl
        go_wp2_with (fail)
        go_ret
        refine ⟨_, rfl, OwnI.of ?_, HU3.out⟩
        rw [HL.out]
        exact own_mono HROW.out (fun k hk => by have := (own_block HROW.out k hk).1; have := HRB.out; omega)
    · intro kx c kl y ps w2 cnt2 hkx hlk hR hat hrg2 hlt hg2 hs2 hen
      obtain ⟨kx', e1, rfl, _⟩ := Maps.keyOf_int_inv Try.underlying3 hkx
      injection e1 with _ e1
      subst e1
      have HLK := Lib.hid hlk
      have HRG2 := Lib.hid hrg2
      have HLT := Lib.hid hlt
      have HRB2 := HRB.out
      have hU2 : Upd [rb] wr w2 := (Upd.refl _ _).grown hg2 (fun k hk _ => by cases hk; simp)
      have HU2 : Hid (Upd [] w w2) := HU.out.trans' hU2 (fun i hm hl => by have := List.mem_singleton.1 hm; omega)
      have HO2 : Hid (OwnI w2 (rb + 1) u3 ss) := HOWN.out.upd hU2 (fun k hk hm => by have := (HOWN.out.lt k hk).1; have := List.mem_singleton.1 hm; omega)
      clear hkx hlk hR hat hrg2 hlt hg2 hs2 hU2 HRB2
      go_wp2_with (with_reducible refine bsI (by with_unfolding_all exact rfl) ?_)
      intro g w3 hg3 k3 hU3
      have hB3 : rb + 1 ≤ w3.heap.size := by have := HU2.out.size; have := hU3.size; have h1 := HRB.out; have h2 := HU1.out.size; have := HRG.out.lt; have := HU.out.size; have := HRG2.out.lt; omega
      have hO3 : OwnI w3 (rb + 1) u3 ss := HO2.out.upd0 hU3
      have HRG3 := Lib.hid (ranges_upd HRG2.out hU3 (by simp) (by simp))
      have HU3 := Lib.hid (HU2.out.trans hU3)
      have hl3 : ss.length ≤ 1000000 := by have := HLEN.out; omega
      clear hg3 hU3
      go_wp2_with (with_reducible refine appendI (by with_unfolding_all exact rfl) (by with_unfolding_all exact rfl) hO3 k3 hl3 hB3 ?_)
      intro v4 w4 hO4 hU4 hb4
      have HO4 := Lib.hid hO4
      have hn4 : ∀ k, u3.ownBlock = some k → rb + 1 ≤ k := fun k hk => (hO3.lt k hk).1
      have HRG4 : Hid (w4.ranges Try.prog 3 readV bm rb es.length D (fun z => left z && !z.sameKey (.int .i64 kx)) cnt2) := ranges_upd HRG3.out hU4 (fun hm => by have := hn4 bm (by simpa using hm); have := HBM.out; have := HRB.out; omega) (fun hm => by have := hn4 rb (by simpa using hm); omega)
      have HU4 : Hid (Upd [] w w4) := HU3.out.trans' hU4 (fun i hm hl => by have := hn4 i (by simpa using hm); have := HRB.out; omega)
      clear hO3 k3 hl3 hB3 hO4 hU4 hb4 hn4
      go_wp2_with (fail)
      have hnot : kx ∉ ss := fun hk => by have := (HMEM.out kx).1 hk; rw [HLK.out] at this; exact absurd this.2 (by simp)
      have HMEM2 : ∀ x, x ∈ ss ++ [kx] ↔ Maps.has D (.int .i64 x) = true ∧ (left (.int .i64 x) && !(Lit.int .i64 x).sameKey (.int .i64 kx)) = false := fun x => by
        rw [List.mem_append, List.mem_singleton, HMEM.out]
        by_cases hx : x = kx
        · subst hx
          have h1 := HLF.out _ HLK.out
          simp [h1, Lit.sameKey]
        · rw [sameKey_ne (lit_int_ne hx)]
          simp [hx]
      have hND2 : (ss ++ [kx]).Nodup := List.nodup_append.2 ⟨HND.out, by simp, fun a ha b hb => by rw [List.mem_singleton.1 hb]; rintro rfl; exact hnot ha⟩
      have hLEN2 : (ss ++ [kx]).length ≤ 4096 := by
        have hsub : (ss ++ [kx]).length ≤ (es.map (·.id)).length := by
          refine nodup_le _ _ hND2 (fun x hx => ?_)
          have h1 := ((HMEM2 x).1 hx).1
          rw [HO.out.has] at h1
          cases hq : findE es x with
          | none => rw [hq] at h1; cases h1
          | some y => obtain ⟨h1, h2⟩ := findE_some hq; exact List.mem_map.2 ⟨y, h1, h2⟩
        rw [List.length_map] at hsub
        exact Nat.le_trans hsub HM4.out
      exact ⟨⟨_, cnt2, ss ++ [kx], HO4.out, HRG4.out, hND2, HMEM2, fun kl hk => HLF.out _ (by rw [Bool.and_eq_true] at hk; exact hk.1), hLEN2, HU4.out⟩, by rw [HRG4.out.left_eq, HRG.out.left_eq]; exact HLT.out⟩
end Go.Proofs.Ytjeddokenpkpnaa
