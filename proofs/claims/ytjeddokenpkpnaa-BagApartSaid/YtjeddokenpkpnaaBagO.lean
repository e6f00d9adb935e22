/-
  holds of package 24.
-/
import Derived.Test.YtjeddokenpkpnaaBagS
namespace Go.Proofs.Ytjeddokenpkpnaa
open Go Go.RowKit Go.Proofs Go.Maps
theorem built_msg123 (f t : Int) (a : Option Addr) (n c : Nat) : Try.prog.built 32 [(1, .int .i64 f), (2, .int .i64 t), (3, .slice a n c)] = some (msgC 0 f t (.slice a n c)) := by kernel_rfl
theorem built_msg0 : Try.prog.built 32 [] = some (msgC 0 0 0 (.slice none 0 0)) := by kernel_rfl
theorem arm_build3m {ops : Array Oper} {rest : List Oper} {a : Act} {w : World} {Q : Exit → Act → World → Prop} {dst : Option Tmp} {type : TypeId} {pos : String} {after : Array Edge} {x1 x2 x3 : Operand} {f t : Int} {A : Option Addr} {n c : Nat}
    (h1 : a.eval x1 = .int .i64 f) (h2 : a.eval x2 = .int .i64 t) (h3 : a.eval x3 = .slice A n c) (h : wpList Try.prog ops Q rest (a.put dst (.agg (msgC 0 f t (.slice A n c)))) w) : wpList Try.prog ops Q (⟨dst, .build 32 #[(1, x1), (2, x2), (3, x3)], type, pos, after, none⟩ :: rest) a w :=
  arm_build (by simpa [h1, h2, h3] using built_msg123 f t A n c) h
/-- one byte, laid into a new block -/
theorem bsB {ops : Array Oper} {rest : List Oper} {a : Act} {w : World} {Q : Exit → Act → World → Prop} {dst : Option Tmp} {type : TypeId} {pos : String} {after : Array Edge} {x1 : Operand} {y : BitVec 8} (h1 : a.eval x1 = U8 y)
    (h : ∀ g w', w.heap.size = g → w'.heap[g]? = some (.cells ([y].map U8).toArray 5 (0, 0)) → Upd [] w w' → wpList Try.prog ops Q rest (a.put dst (.slice (some ⟨g, 0, none⟩) 1 1)) w') :
    wpList Try.prog ops Q (⟨dst, .buildSlice 27 1 #[(0, x1)], type, pos, after, none⟩ :: rest) a w := by
  obtain ⟨i, hi, hz, hs, _⟩ := info_byte
  exact arm_bs1 Try.underlying27 hi hs hz rfl h1 rfl h
theorem rd_block {w : World} {g : Nat} {l : List (BitVec 8)} {T : TypeId} {fr : Nat × Nat} (h : w.heap[g]? = some (.cells (l.map U8).toArray T fr)) (hl : l.length ≤ maxLen) : RdB w (.slice (some ⟨g, 0, none⟩) l.length l.length) l :=
  .mk (Nat.le_refl _) hl (Bytes.of_row h l 0 (fun i hi => by simp [hi]))
theorem findE_one (y : Ent) : findE [y] y.id = some y := by simp [findE]
set_option maxRecDepth 100000 in
set_option maxHeartbeats 3200000 in
theorem holds_ (w : World) : Calls Try.prog 7 #[] w fun e w' => e = .returned (.bool true) ∧ Upd [] w w' := by
  go_enter Try.func7, Try.ntmps7
  go_wp2_with (fail)
  refine (new_ _).mono ?_
  rintro e w1 ⟨bb, bm, D, rfl, hB1, hU1⟩
  have HB1 := Lib.hid hB1
  have HU1 := Lib.hid hU1
  clear hB1 hU1
  go_wp2_with (first
    | (with_reducible refine bsB (y := 5) (by with_unfolding_all exact rfl) ?_))
  intro g2 w2 hg2 k2 hU2
  have HRD : Hid (RdB w2 (.slice (some ⟨g2, 0, none⟩) 1 1) [5]) := rd_block (l := [5]) k2 (by simp [maxLen])
  have HB2 := Lib.hid (HB1.out.upd0 hU2)
  have HU2 := Lib.hid (HU1.out.trans hU2)
  clear hg2 k2 hU2
  go_wp2_with (first
    | (with_reducible refine arm_build3m (by with_unfolding_all exact rfl) (by with_unfolding_all exact rfl) (by with_unfolding_all exact rfl) ?_))
  refine (put_ _ _ bb bm 0 [] D HB2.out 0 1 2 _ [5] HRD.out (by simp) (by omega) (by simp)).mono ?_
  rintro e w3 ⟨v', D', rfl, hB3, hn3, hU3⟩
  have HB3 : Hid (BagAt w3 w.heap.size bb bm 1 [⟨1, 1, 2, v', [5]⟩] D') := hB3
  have HU3 : Hid (Upd [] w w3) := HU2.out.trans' hU3 (fun i hm hl => by simp at hm; have := HB1.out.low; omega)
  clear hB3 hn3 hU3
  go_wp2_with (fail)
  refine (get_ _ _ bb bm 1 _ D' HB3.out 1 (wf_small (by omega) (by omega)) _ (findE_one ⟨1, 1, 2, v', [5]⟩)).mono ?_
  rintro e w4 ⟨v4, rfl, ho4, hU4⟩
  have HO4 := Lib.hid ho4
  have HB4 := Lib.hid (HB3.out.upd0 hU4)
  have HU4 := Lib.hid (HU3.out.trans hU4)
  have hv4 : v4.oneCell' = true := by obtain ⟨a, c, e⟩ := ho4.isSlice; rw [e]; rfl
  have hs4 := size_msg 1 1 2 v4
  have ho1 := one_msg 1 1 2 hv4
  clear ho4 hU4 hv4
  simp only
  go_wp2_with (with_reducible refine arm_alloc (zero_msg _) ?_)
  intro b5 w5 hb5 k5 hU5 hz5
  change w5.heap[b5]? = some (.cells (msgC 0 0 0 (.slice none 0 0)) 32 (0, 0)) at k5
  have HO5 := Lib.hid (HO4.out.upd0 hU5)
  have HB5 := Lib.hid (HB4.out.upd0 hU5)
  have HU5 := Lib.hid (HU4.out.trans hU5)
  have HLB : Hid (w.heap.size ≤ b5) := by show w.heap.size ≤ b5; have := HU4.out.size; omega
  clear hb5 hU5 hz5
  go_wp2_with (with_reducible refine arm_store (by with_unfolding_all exact rfl) (by with_unfolding_all exact rfl) k5 hs4 (by with_unfolding_all exact rfl) ho1 ?_)
  intro w6 k6 hX6 hz6
  have HU6 : Hid (Upd [] w w6) := HU5.out.trans' hX6 (fun i hm hl => by have := List.mem_singleton.1 hm; have := HLB.out; omega)
  have HO6 : Hid (OwnB w6 w4.heap.size v4 [5] ∨ True) := .inr trivial
  have HR6 : Hid (RdB w6 v4 [5]) := (HO5.out.upd hX6 (fun k hk hm => cells_ne HO5.out k5 (by decide) (by rw [hk, List.mem_singleton.1 hm]))).rd
  have HB6 : Hid (BagAt w6 w.heap.size bb bm 1 [⟨1, 1, 2, v', [5]⟩] D') := HB5.out.upd hX6 (fun hm => heap_ne HB5.out.cells k5 (by decide) (List.mem_singleton.1 hm)) (fun hm => map_ne HB5.out.map k5 (List.mem_singleton.1 hm)) (fun e he k hk hm => cells_ne (HB5.out.rows e he) k5 (by decide) (by rw [hk, List.mem_singleton.1 hm]))
  have c2 : w6.cell? ⟨b5, 2, none⟩ = some (.int .i64 2) := by rw [cell_of_row _ _ _ _ _ _ k6]; rfl
  have c3 : w6.cell? ⟨b5, 3, none⟩ = some v4 := by rw [cell_of_row _ _ _ _ _ _ k6]; rfl
  clear k5 hs4 ho1 k6 hX6 hz6 HO6
  go_wp2_with (fail)
  have hA : Upd [] w6 (w6.alloc (.cells #[.int .u8 5] 5)) := (Upd.refl _ _).alloc _
  have HR7 : Hid (RdB (w6.alloc (.cells #[.int .u8 5] 5)) (.slice (some ⟨w6.heap.size, 0, none⟩) 1 1) [5]) := rd_block (l := [5]) (hget_new rfl) (by simp [maxLen])
  refine (same24 _ v4 _ [5] [5] (HR6.out.upd0 hA) HR7.out (by simp) (by simp)).mono ?_
  rintro e w7 ⟨rfl, hU7⟩
  have HB7 := Lib.hid (HB6.out.upd0 (hA.trans hU7))
  have HU7 := Lib.hid (HU6.out.trans (hA.trans hU7))
  have hb : (([5] : List (BitVec 8)) == [5]) = true := by decide
  rw [hb]
  clear hA hU7 c2 c3 hb
  go_wp2_with (fail)
  refine (len_ _ _ bb bm 1 _ D' HB7.out).mono ?_
  rintro e w8 ⟨rfl, rfl⟩
  simp only [List.length_cons, List.length_nil, Nat.zero_add]
  go_wp2_with (fail)
  refine (room_ _ _ bb bm 1 _ D' HB7.out).mono ?_
  rintro e w9 ⟨rfl, rfl⟩
  simp only [List.length_cons, List.length_nil, Nat.zero_add]
  go_wp2_with (fail)
  go_ret
  exact ⟨rfl, HU7.out⟩
end Go.Proofs.Ytjeddokenpkpnaa
