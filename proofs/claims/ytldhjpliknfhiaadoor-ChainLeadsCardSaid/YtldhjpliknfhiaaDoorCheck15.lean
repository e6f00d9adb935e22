/-
  chain.Check and the document's.
-/
import Derived.Test.YtldhjpliknfhiaaDoorChecks
namespace Go.Proofs.YtldhjpliknfhiaaDoor
open Go Go.RowKit Go.Proofs
theorem wpList_wanted {P : Program} {ops : Array Oper} {rest : List Oper} {o : Oper} {a : Act} {w : World} {Q : Exit → Act → World → Prop} (hw : Region.wanted o (yielded ops a.tmps) = true)
    (h : ∀ K : Act → World → Prop, (∀ a w, wpList P ops Q rest a w → K a w) → o.wp P a w K Q) : wpList P ops Q (o :: rest) a w := by
  show if Region.wanted o (yielded ops a.tmps) = true then _ else _
  rw [if_pos hw]
  exact .inl (h _ fun _ _ h => h)
theorem wpList_load_row_g {P : Program} {ops : Array Oper} {rest : List Oper} {o : Oper} {a : Act} {w : World} {Q : Exit → Act → World → Prop} (hw : Region.wanted o (yielded ops a.tmps) = true) (ty : TypeId) (x : Operand) (ho : o.op = .load ty x)
    (g : Nat) (hx : a.eval x = .pointer (some ⟨g, 0, none⟩)) (t : TypeId) (cs : Array Value) (fr : Nat × Nat) (d : TypeDesc) (hg : w.heap[g]? = some (.cells cs t fr))
    (hu : P.underlying ty = some d) (hd : (match d with | .struct _ | .array _ _ => true | _ => false) = true) (hi : (P.info? ty).map (·.size) = some cs.size)
    (h : wpList P ops Q rest (a.put o.dst (.agg cs)) w) : wpList P ops Q (o :: rest) a w :=
  wpList_wanted hw fun _ hK => wp_load_row ty x ho g hx t cs fr d hg hu hd hi (hK _ _ h)
theorem check_link (low high : List (BitVec 8)) (n i : Int) (hn : mayRide n = true) (hi : i ≤ n) : checkOf low n i high = linkOf 0 low i high := by
  have hn' : 1 ≤ n ∧ n ≤ 4096 := by simpa [mayRide] using hn
  unfold checkOf linkOf
  by_cases h : i < 0
  · rw [if_pos (by simp [h]), if_pos (by omega)]
  · rw [if_neg (by rw [hn]; simp; omega), if_neg (by omega), Int.sub_zero]
set_option maxRecDepth 100000 in
set_option maxHeartbeats 3200000 in
theorem check_ (w : World) (low high : List (BitVec 8)) (n i : Int) (hl : low.length = 32) (hh : high.length = 32) (hg : Gl256 w) (hf : GlFirst256 w) :
    Calls Tryd.prog 21 #[.agg (low.map U8).toArray, .int .i64 n, .int .i64 i, .agg (high.map U8).toArray] w fun x w' => x = .returned (.bool (checkOf low n i high)) ∧ Upd [] w w' := by
  obtain ⟨B, hB⟩ : ∃ B, w.heap.size = B := ⟨_, rfl⟩
  by_cases h : mayRide n = false
  · have ee : checkOf low n i high = false := by unfold checkOf; rw [if_pos (Or.inl h)]
    rw [ee]
    obtain ⟨cl, hcl⟩ : ∃ cs, (low.map U8).toArray = cs := ⟨_, rfl⟩
    obtain ⟨ch, hch⟩ : ∃ cs, (high.map U8).toArray = cs := ⟨_, rfl⟩
    rw [hcl, hch]
    go_enter Tryd.func21, Tryd.ntmps21
    go_wp2_with (go_at_call 35; refine (rides_ _ n).mono ?_; rintro e w3 ⟨rfl, rfl⟩; rw [h])
    go_ret
    exact ⟨rfl, ((Upd.refl _ w).alloc _).alloc _⟩
  · have h' : mayRide n = true := by simpa using h
    by_cases c : n < i
    · have ee : checkOf low n i high = false := by unfold checkOf; rw [if_pos (Or.inr (Or.inr c))]
      rw [ee]
      obtain ⟨cl, hcl⟩ : ∃ cs, (low.map U8).toArray = cs := ⟨_, rfl⟩
      obtain ⟨ch, hch⟩ : ∃ cs, (high.map U8).toArray = cs := ⟨_, rfl⟩
      rw [hcl, hch]
      have c2 : ¬ (i ≤ n) := by omega
      go_enter Tryd.func21, Tryd.ntmps21
      go_wp2_with (go_at_call 35; refine (rides_ _ n).mono ?_; rintro e w3 ⟨rfl, rfl⟩; rw [h'])
      go_ret
      exact ⟨rfl, ((Upd.refl _ w).alloc _).alloc _⟩
    · have c2 : i ≤ n := by omega
      rw [check_link low high n i h' c2]
      have hlk := fun w h1 h2 => link_ w low high 0 i hl hh h1 h2
      obtain ⟨cl, hcl⟩ : ∃ cs, (low.map U8).toArray = cs := ⟨_, rfl⟩
      obtain ⟨ch, hch⟩ : ∃ cs, (high.map U8).toArray = cs := ⟨_, rfl⟩
      have hs1 := size_of32 hl
      have hs2 := size_of32 hh
      rw [hcl] at hs1
      rw [hch] at hs2
      rw [hcl, hch] at hlk ⊢
      have HL := Lib.hid hlk
      have HG := Lib.hid hg
      have HF := Lib.hid hf
      have hU2 : Hid (∀ o1 o2, Upd [] w ((w.alloc o1).alloc o2)) := fun o1 o2 => ((Upd.refl [] w).alloc o1).alloc o2
      clear hlk hcl hch hg hf
      go_enter Tryd.func21, Tryd.ntmps21
      go_wp2_with (first
        | (go_at_call 35; refine (rides_ _ n).mono ?_; rintro e w3 ⟨rfl, rfl⟩; rw [h'])
        | (refine wpList_load_row_g rfl 23 _ rfl B rfl 23 _ (0, 0) _ (hget_old (hget_new hB.symm)) Tryd.underlying23 rfl hs1 ?_)
        | (refine wpList_load_row_g rfl 23 _ rfl (B + 1) rfl 23 _ (0, 0) _ (hget_new (by simp [hB])) Tryd.underlying23 rfl hs2 ?_)
        | (go_at_call 23; refine (HL.out _ (HG.out.upd (hU2.out _ _) (by simp)) (HF.out.upd (hU2.out _ _) (by simp))).mono ?_; rintro e w4 ⟨rfl, hU4⟩))
      go_ret
      exact ⟨rfl, (hU2.out _ _).trans hU4⟩
set_option maxRecDepth 100000 in
set_option maxHeartbeats 3200000 in
theorem refcheck (w : World) (low high : List (BitVec 8)) (n i : Int) (hl : low.length = 32) (hh : high.length = 32) :
    Calls Tryd.prog 22 #[.agg (low.map U8).toArray, .int .i64 n, .int .i64 i, .agg (high.map U8).toArray] w fun x w' => x = .returned (.bool (checkOf low n i high)) ∧ Upd [] w w' := by
  obtain ⟨B, hB⟩ : ∃ B, w.heap.size = B := ⟨_, rfl⟩
  by_cases hbad : mayRide n = false ∨ i < 0 ∨ i > n
  · have ee : checkOf low n i high = false := by unfold checkOf; rw [if_pos hbad]
    rw [ee]
    by_cases c1 : n < 1
    · clear hbad
      go_enter Tryd.func22, Tryd.ntmps22
      go_wp2
      go_ret
      exact ⟨rfl, ((Upd.refl _ w).alloc _).alloc _⟩
    · by_cases c2 : n > 4096
      · clear hbad
        go_enter Tryd.func22, Tryd.ntmps22
        go_wp2
        go_ret
        exact ⟨rfl, ((Upd.refl _ w).alloc _).alloc _⟩
      · by_cases c3 : i < 0
        · clear hbad
          go_enter Tryd.func22, Tryd.ntmps22
          go_wp2
          go_ret
          exact ⟨rfl, ((Upd.refl _ w).alloc _).alloc _⟩
        · have c4 : i > n := by simp [mayRide] at hbad; omega
          clear hbad
          go_enter Tryd.func22, Tryd.ntmps22
          go_wp2
          go_ret
          exact ⟨rfl, ((Upd.refl _ w).alloc _).alloc _⟩
  · have ee : checkOf low n i high = ((iterOf high i).1 == low) := by unfold checkOf; rw [if_neg hbad]
    rw [ee]
    have h' : mayRide n = true := by simp only [not_or] at hbad; simpa using hbad.1
    have hn : 1 ≤ n ∧ n ≤ 4096 := by simpa [mayRide] using h'
    obtain ⟨E, rfl⟩ : ∃ N : Nat, n = N := ⟨n.toNat, by omega⟩
    obtain ⟨L, rfl⟩ : ∃ I : Nat, i = I := ⟨i.toNat, by omega⟩
    have hEL : L ≤ E := by omega
    have hL : 1 ≤ E ∧ E ≤ 4096 := by omega
    have q1 : ¬ ((L : Int) < 0) := by omega
    have q2 : ¬ ((E : Int) < (L : Int)) := by omega
    have q3 : ¬ ((4096 : Int) < (E : Int)) := by omega
    have q4 : ¬ ((E : Int) < 1) := by omega
    clear hbad ee hn
    obtain ⟨r, hr⟩ : ∃ r, iterOf high (L) = r := ⟨_, rfl⟩
    have hrl := iterOf_length high (L) hh
    have hit := fun w => refiterate w high (L) hh
    rw [hr] at hrl hit ⊢
    obtain ⟨R, b⟩ := r
    obtain ⟨cl, hcl⟩ : ∃ cs, (low.map U8).toArray = cs := ⟨_, rfl⟩
    obtain ⟨ch, hch⟩ : ∃ cs, (high.map U8).toArray = cs := ⟨_, rfl⟩
    obtain ⟨cr, hcr⟩ : ∃ cs, (R.map U8).toArray = cs := ⟨_, rfl⟩
    have hs1 := size_of32 hl
    have hs2 := size_of32 hh
    have hs3 := size_of32 hrl
    have ho := same_size32 hrl
    have ha := one_of32 R
    have hq := fun w => eql_h32 R low hrl hl w
    have hgd := guard_h32
    rw [hcl] at hs1 hq ⊢
    rw [hch] at hit hs2 ⊢
    simp only [hcr] at hit hs3 ho ha hq
    have HI := Lib.hid hit
    clear hit hr hcl hch hcr
    go_enter Tryd.func22, Tryd.ntmps22
    go_upto_region 1 with (fail)
    generalize hw2 : World.alloc (World.alloc w _) _ = w2
    have hU2 : Upd [] w w2 := by rw [← hw2]; exact ((Upd.refl _ w).alloc _).alloc _
    have h1 : w2.heap[B]? = some (.cells cl 23 (0, 0)) := by rw [← hw2]; exact hget_old (hget_new hB.symm)
    have h2 : w2.heap[B + 1]? = some (.cells ch 23 (0, 0)) := by rw [← hw2]; exact hget_new (by simp [hB])
    have hz : w2.heap.size = B + 2 := by rw [← hw2]; simp [hB]
    clear hw2
    go_wp2_with (first
      | (refine wpList_load_row rfl 23 _ rfl (B + 1) rfl 23 _ (0, 0) _ h2 Tryd.underlying23 rfl hs2 ?_)
      | (go_at_call 13; refine (HI.out _).mono ?_; rintro e w4 ⟨rfl, hU4⟩)
      | (refine wpList_store_row rfl 23 _ _ rfl w4.heap.size cr rfl rfl 23 _ (hget_new rfl) hs3 ho ha ?_)
      | (refine wpList_load_row rfl 23 _ rfl w4.heap.size rfl 23 _ (0, 0) _ (setRow_heap _ _ _ _ 23 (0, 0) (hget_new rfl)) Tryd.underlying23 rfl hs3 ?_)
      | (refine wpList_load_row rfl 23 _ rfl B rfl 23 _ (0, 0) _ (by rw [setRow_other _ _ _ _ (by have := hU4.size; omega)]; exact hget_old (hU4.heap h1 (by simp))) Tryd.underlying23 rfl hs1 ?_))
    go_ret
    exact ⟨rfl, ((hU2.trans hU4).alloc _).setRow _ _ (by have := hU4.size; omega)⟩
end Go.Proofs.YtldhjpliknfhiaaDoor
