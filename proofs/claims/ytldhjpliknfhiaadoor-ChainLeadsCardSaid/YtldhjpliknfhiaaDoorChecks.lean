/-
  chain.Anchor, Check, Link and the document's.
-/
import Derived.Test.YtldhjpliknfhiaaDoorValue
namespace Go.Proofs.YtldhjpliknfhiaaDoor
open Go Go.RowKit Go.Proofs
def linkOf (e : Int) (low : List (BitVec 8)) (l : Int) (high : List (BitVec 8)) : Bool := if e < 0 ∨ l < e ∨ l > 4096 then false else (iterOf high (l - e)).1 == low
def checkOf (anchor : List (BitVec 8)) (n i : Int) (v : List (BitVec 8)) : Bool := if mayRide n = false ∨ i < 0 ∨ i > n then false else (iterOf v i).1 == anchor
set_option maxRecDepth 100000 in
set_option maxHeartbeats 3200000 in
theorem anchor_ (w : World) (m : List (BitVec 8)) (n : Int) (hm : m.length = 32) (hg : Gl256 w) (hf : GlFirst256 w) :
    Calls Tryd.prog 19 #[.agg (m.map U8).toArray, .int .i64 n] w fun e w' => e = .returned (.tuple #[.agg ((valueOf m n 0).1.map U8).toArray, .bool (valueOf m n 0).2]) ∧ Upd [] w w' := by
  obtain ⟨B, hB⟩ : ∃ B, w.heap.size = B := ⟨_, rfl⟩
  obtain ⟨r, hr⟩ : ∃ r, valueOf m n 0 = r := ⟨_, rfl⟩
  have hv := fun w h1 h2 => value_ w m n 0 hm h1 h2
  have hrl := valueOf_length m n 0 hm
  rw [hr] at hv hrl ⊢
  obtain ⟨R, b⟩ := r
  obtain ⟨cs, hcs⟩ : ∃ cs, (m.map U8).toArray = cs := ⟨_, rfl⟩
  have hs1 := size_of32 hm
  rw [hcs] at hv hs1 ⊢
  have hs2 := size_of32 hrl
  have ho := same_size32 hrl
  have ha := one_of32 R
  have HV := Lib.hid hv
  have HG := Lib.hid hg
  have HF := Lib.hid hf
  clear hg hf
  clear hv hr hcs
  go_enter Tryd.func19, Tryd.ntmps19
  go_wp2_with (first
    | (refine wpList_load_row rfl 23 _ rfl B rfl 23 _ (0, 0) _ (hget_old (hget_new hB.symm)) Tryd.underlying23 rfl hs1 ?_)
    | (go_at_call 17; refine (HV.out _ (HG.out.upd (((Upd.refl [] w).alloc _).alloc _) (by simp)) (HF.out.upd (((Upd.refl [] w).alloc _).alloc _) (by simp))).mono ?_; rintro e w4 ⟨rfl, hU4⟩; have h4 : w4.heap[B + 1]? = some (.cells (zrow8 32) 23 (0, 0)) := hU4.heap (hget_new (by simp [hB])) (by simp))
    | (refine wpList_store_row rfl 23 _ _ rfl (B + 1) _ rfl rfl 23 _ h4 hs2 ho ha ?_))
  refine bodyPost_ret (v := .tuple #[.agg (R.map U8).toArray, .bool b]) (results_agg_tmp (p := 4) (u := 5) rfl _ _ (B + 1) 23 _ (0, 0) _ rfl (setRow_heap w4 (B + 1) _ _ 23 (0, 0) h4) Tryd.underlying23 rfl hs2) rfl ⟨rfl, ?_⟩
  exact ((((Upd.refl [] w).alloc _).alloc _).trans hU4).setRow _ _ (by omega)
set_option maxRecDepth 100000 in
set_option maxHeartbeats 3200000 in
theorem refanchor (w : World) (m : List (BitVec 8)) (n : Int) (hm : m.length = 32) :
    Calls Tryd.prog 20 #[.agg (m.map U8).toArray, .int .i64 n] w fun e w' => e = .returned (.tuple #[.agg ((valueOf m n 0).1.map U8).toArray, .bool (valueOf m n 0).2]) ∧ Upd [] w w' := by
  obtain ⟨B, hB⟩ : ∃ B, w.heap.size = B := ⟨_, rfl⟩
  obtain ⟨r, hr⟩ : ∃ r, valueOf m n 0 = r := ⟨_, rfl⟩
  have hv := fun w => refvalue w m n 0 hm
  have hrl := valueOf_length m n 0 hm
  rw [hr] at hv hrl ⊢
  obtain ⟨R, b⟩ := r
  obtain ⟨cs, hcs⟩ : ∃ cs, (m.map U8).toArray = cs := ⟨_, rfl⟩
  have hs1 := size_of32 hm
  rw [hcs] at hv hs1 ⊢
  have hs2 := size_of32 hrl
  have ho := same_size32 hrl
  have ha := one_of32 R
  have HV := Lib.hid hv
  clear hv hr hcs
  go_enter Tryd.func20, Tryd.ntmps20
  go_wp2_with (first
    | (refine wpList_load_row rfl 23 _ rfl B rfl 23 _ (0, 0) _ (hget_old (hget_new hB.symm)) Tryd.underlying23 rfl hs1 ?_)
    | (go_at_call 18; refine (HV.out _).mono ?_; rintro e w4 ⟨rfl, hU4⟩; have h4 : w4.heap[B + 1]? = some (.cells (zrow8 32) 23 (0, 0)) := hU4.heap (hget_new (by simp [hB])) (by simp))
    | (refine wpList_store_row rfl 23 _ _ rfl (B + 1) _ rfl rfl 23 _ h4 hs2 ho ha ?_))
  refine bodyPost_ret (v := .tuple #[.agg (R.map U8).toArray, .bool b]) (results_agg_tmp (p := 4) (u := 5) rfl _ _ (B + 1) 23 _ (0, 0) _ rfl (setRow_heap w4 (B + 1) _ _ 23 (0, 0) h4) Tryd.underlying23 rfl hs2) rfl ⟨rfl, ?_⟩
  exact ((((Upd.refl [] w).alloc _).alloc _).trans hU4).setRow _ _ (by omega)
set_option maxRecDepth 100000 in
set_option maxHeartbeats 3200000 in
theorem link_ (w : World) (low high : List (BitVec 8)) (e l : Int) (hl : low.length = 32) (hh : high.length = 32) (hg : Gl256 w) (hf : GlFirst256 w) :
    Calls Tryd.prog 23 #[.int .i64 e, .agg (low.map U8).toArray, .int .i64 l, .agg (high.map U8).toArray] w fun x w' => x = .returned (.bool (linkOf e low l high)) ∧ Upd [] w w' := by
  obtain ⟨B, hB⟩ : ∃ B, w.heap.size = B := ⟨_, rfl⟩
  by_cases hbad : e < 0 ∨ l < e ∨ l > 4096
  · have ee : linkOf e low l high = false := by unfold linkOf; rw [if_pos hbad]
    rw [ee]
    by_cases c1 : e < 0
    · clear hbad
      go_enter Tryd.func23, Tryd.ntmps23
      go_wp2
      go_ret
      exact ⟨rfl, ((Upd.refl _ w).alloc _).alloc _⟩
    · by_cases c2 : l < e
      · clear hbad
        go_enter Tryd.func23, Tryd.ntmps23
        go_wp2
        go_ret
        exact ⟨rfl, ((Upd.refl _ w).alloc _).alloc _⟩
      · have c3 : l > 4096 := by omega
        clear hbad
        go_enter Tryd.func23, Tryd.ntmps23
        go_wp2
        go_ret
        exact ⟨rfl, ((Upd.refl _ w).alloc _).alloc _⟩
  · have ee : linkOf e low l high = ((iterOf high (l - e)).1 == low) := by unfold linkOf; rw [if_neg hbad]
    rw [ee]
    obtain ⟨E, rfl⟩ : ∃ N : Nat, e = N := ⟨e.toNat, by omega⟩
    obtain ⟨L, rfl⟩ : ∃ I : Nat, l = I := ⟨l.toNat, by omega⟩
    have hEL : E ≤ L := by omega
    have hL : L ≤ 4096 := by omega
    have q1 : ¬ ((E : Int) < 0) := by omega
    have q2 : ¬ ((L : Int) < (E : Int)) := by omega
    have q3 : ¬ ((4096 : Int) < (L : Int)) := by omega
    clear hbad ee
    obtain ⟨r, hr⟩ : ∃ r, iterOf high ((L : Int) - E) = r := ⟨_, rfl⟩
    have hrl := iterOf_length high ((L : Int) - E) hh
    have hit := fun w h1 h2 => iterate_ w high ((L : Int) - E) hh h1 h2
    rw [hr] at hrl hit ⊢
    obtain ⟨R, b⟩ := r
    obtain ⟨cl, hcl⟩ : ∃ cs, (low.map U8).toArray = cs := ⟨_, rfl⟩
    obtain ⟨ch, hch⟩ : ∃ cs, (high.map U8).toArray = cs := ⟨_, rfl⟩
    obtain ⟨cr, hcr⟩ : ∃ cs, (R.map U8).toArray = cs := ⟨_, rfl⟩
    have hs1 := size_of32 hl
    have hs2 := size_of32 hh
    have hs3 := size_of32 hrl
    have ho := same_size32 hrl
    have ha := one_of32 R
    have hq := fun w => eql_h32 R low hrl hl w
    have hgd := guard_h32
    rw [hcl] at hs1 hq ⊢
    rw [hch] at hit hs2 ⊢
    simp only [hcr] at hit hs3 ho ha hq
    have HI := Lib.hid hit
    clear hit hr hcl hch hcr
    have HG := Lib.hid hg
    have HF := Lib.hid hf
    clear hg hf
    go_enter Tryd.func23, Tryd.ntmps23
    go_upto_region 1 with (fail)
    generalize hw2 : World.alloc (World.alloc w _) _ = w2
    have hU2 : Upd [] w w2 := by rw [← hw2]; exact ((Upd.refl _ w).alloc _).alloc _
    have h1 : w2.heap[B]? = some (.cells cl 23 (0, 0)) := by rw [← hw2]; exact hget_old (hget_new hB.symm)
    have h2 : w2.heap[B + 1]? = some (.cells ch 23 (0, 0)) := by rw [← hw2]; exact hget_new (by simp [hB])
    have hz : w2.heap.size = B + 2 := by rw [← hw2]; simp [hB]
    clear hw2
    go_wp2_with (first
      | (refine wpList_load_row rfl 23 _ rfl (B + 1) rfl 23 _ (0, 0) _ h2 Tryd.underlying23 rfl hs2 ?_)
      | (go_at_call 12; refine (HI.out _ (HG.out.upd hU2 (by simp)) (HF.out.upd hU2 (by simp))).mono ?_; rintro e w4 ⟨rfl, hU4⟩)
      | (refine wpList_store_row rfl 23 _ _ rfl w4.heap.size cr rfl rfl 23 _ (hget_new rfl) hs3 ho ha ?_)
      | (refine wpList_load_row rfl 23 _ rfl w4.heap.size rfl 23 _ (0, 0) _ (setRow_heap _ _ _ _ 23 (0, 0) (hget_new rfl)) Tryd.underlying23 rfl hs3 ?_)
      | (refine wpList_load_row rfl 23 _ rfl B rfl 23 _ (0, 0) _ (by rw [setRow_other _ _ _ _ (by have := hU4.size; omega)]; exact hget_old (hU4.heap h1 (by simp))) Tryd.underlying23 rfl hs1 ?_))
    go_ret
    exact ⟨rfl, ((hU2.trans hU4).alloc _).setRow _ _ (by have := hU4.size; omega)⟩
set_option maxRecDepth 100000 in
set_option maxHeartbeats 3200000 in
theorem reflink (w : World) (low high : List (BitVec 8)) (e l : Int) (hl : low.length = 32) (hh : high.length = 32) :
    Calls Tryd.prog 24 #[.int .i64 e, .agg (low.map U8).toArray, .int .i64 l, .agg (high.map U8).toArray] w fun x w' => x = .returned (.bool (linkOf e low l high)) ∧ Upd [] w w' := by
  obtain ⟨B, hB⟩ : ∃ B, w.heap.size = B := ⟨_, rfl⟩
  by_cases hbad : e < 0 ∨ l < e ∨ l > 4096
  · have ee : linkOf e low l high = false := by unfold linkOf; rw [if_pos hbad]
    rw [ee]
    by_cases c1 : e < 0
    · clear hbad
      go_enter Tryd.func24, Tryd.ntmps24
      go_wp2
      go_ret
      exact ⟨rfl, ((Upd.refl _ w).alloc _).alloc _⟩
    · by_cases c2 : l < e
      · clear hbad
        go_enter Tryd.func24, Tryd.ntmps24
        go_wp2
        go_ret
        exact ⟨rfl, ((Upd.refl _ w).alloc _).alloc _⟩
      · have c3 : l > 4096 := by omega
        clear hbad
        go_enter Tryd.func24, Tryd.ntmps24
        go_wp2
        go_ret
        exact ⟨rfl, ((Upd.refl _ w).alloc _).alloc _⟩
  · have ee : linkOf e low l high = ((iterOf high (l - e)).1 == low) := by unfold linkOf; rw [if_neg hbad]
    rw [ee]
    obtain ⟨E, rfl⟩ : ∃ N : Nat, e = N := ⟨e.toNat, by omega⟩
    obtain ⟨L, rfl⟩ : ∃ I : Nat, l = I := ⟨l.toNat, by omega⟩
    have hEL : E ≤ L := by omega
    have hL : L ≤ 4096 := by omega
    have q1 : ¬ ((E : Int) < 0) := by omega
    have q2 : ¬ ((L : Int) < (E : Int)) := by omega
    have q3 : ¬ ((4096 : Int) < (L : Int)) := by omega
    clear hbad ee
    obtain ⟨r, hr⟩ : ∃ r, iterOf high ((L : Int) - E) = r := ⟨_, rfl⟩
    have hrl := iterOf_length high ((L : Int) - E) hh
    have hit := fun w => refiterate w high ((L : Int) - E) hh
    rw [hr] at hrl hit ⊢
    obtain ⟨R, b⟩ := r
    obtain ⟨cl, hcl⟩ : ∃ cs, (low.map U8).toArray = cs := ⟨_, rfl⟩
    obtain ⟨ch, hch⟩ : ∃ cs, (high.map U8).toArray = cs := ⟨_, rfl⟩
    obtain ⟨cr, hcr⟩ : ∃ cs, (R.map U8).toArray = cs := ⟨_, rfl⟩
    have hs1 := size_of32 hl
    have hs2 := size_of32 hh
    have hs3 := size_of32 hrl
    have ho := same_size32 hrl
    have ha := one_of32 R
    have hq := fun w => eql_h32 R low hrl hl w
    have hgd := guard_h32
    rw [hcl] at hs1 hq ⊢
    rw [hch] at hit hs2 ⊢
    simp only [hcr] at hit hs3 ho ha hq
    have HI := Lib.hid hit
    clear hit hr hcl hch hcr
    go_enter Tryd.func24, Tryd.ntmps24
    go_upto_region 1 with (fail)
    generalize hw2 : World.alloc (World.alloc w _) _ = w2
    have hU2 : Upd [] w w2 := by rw [← hw2]; exact ((Upd.refl _ w).alloc _).alloc _
    have h1 : w2.heap[B]? = some (.cells cl 23 (0, 0)) := by rw [← hw2]; exact hget_old (hget_new hB.symm)
    have h2 : w2.heap[B + 1]? = some (.cells ch 23 (0, 0)) := by rw [← hw2]; exact hget_new (by simp [hB])
    have hz : w2.heap.size = B + 2 := by rw [← hw2]; simp [hB]
    clear hw2
    go_wp2_with (first
      | (refine wpList_load_row rfl 23 _ rfl (B + 1) rfl 23 _ (0, 0) _ h2 Tryd.underlying23 rfl hs2 ?_)
      | (go_at_call 13; refine (HI.out _).mono ?_; rintro e w4 ⟨rfl, hU4⟩)
      | (refine wpList_store_row rfl 23 _ _ rfl w4.heap.size cr rfl rfl 23 _ (hget_new rfl) hs3 ho ha ?_)
      | (refine wpList_load_row rfl 23 _ rfl w4.heap.size rfl 23 _ (0, 0) _ (setRow_heap _ _ _ _ 23 (0, 0) (hget_new rfl)) Tryd.underlying23 rfl hs3 ?_)
      | (refine wpList_load_row rfl 23 _ rfl B rfl 23 _ (0, 0) _ (by rw [setRow_other _ _ _ _ (by have := hU4.size; omega)]; exact hget_old (hU4.heap h1 (by simp))) Tryd.underlying23 rfl hs1 ?_))
    go_ret
    exact ⟨rfl, ((hU2.trans hU4).alloc _).setRow _ _ (by have := hU4.size; omega)⟩
end Go.Proofs.YtldhjpliknfhiaaDoor
