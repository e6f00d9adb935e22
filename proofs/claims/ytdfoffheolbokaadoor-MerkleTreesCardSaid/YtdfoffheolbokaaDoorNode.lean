/-
  Leaf and Node of a tree of hashes: sha256 over a byte ahead of the data, or of two hashes.
-/
import Derived.Test.YtdfoffheolbokaaDoorDigSum256
import Derived.Test.YtdfoffheolbokaaDoorMerkle
import Derived.Test.YtdfoffheolbokaaDoorHoist
import Derived.Test.YtdfoffheolbokaaDoorGl256
import Derived.Outline
namespace Go.Proofs.YtdfoffheolbokaaDoor
open Go Go.RowKit Go.Proofs
theorem RdB.one1 (w : World) (g : Nat) (y : BitVec 8) (T : TypeId) (fr : Nat × Nat) (h : w.heap[g]? = some (.cells #[U8 y] T fr)) : RdB w (.slice (some ⟨g, 0, none⟩) 1 1) [y] :=
  RdB.mk (l := [y]) (by simp) (by simp [maxLen]) (Bytes.of_row h [y] 0 (fun i hi => by simp at hi; subst hi; rfl))
/-- one byte, laid into a new block -/
theorem bs1 {ops : Array Oper} {rest : List Oper} {a : Act} {w : World} {Q : Exit → Act → World → Prop} {dst : Option Tmp} {type : TypeId} {pos : String} {after : Array Edge} {x1 : Operand} {y : BitVec 8} (h1 : a.eval x1 = U8 y)
    (h : ∀ g w', w.heap.size = g → RdB w' (.slice (some ⟨g, 0, none⟩) 1 1) [y] → Upd [] w w' → wpList Tryd.prog ops Q rest (a.put dst (.slice (some ⟨g, 0, none⟩) 1 1)) w') :
    wpList Tryd.prog ops Q (⟨dst, .buildSlice 37 1 #[(0, x1)], type, pos, after, none⟩ :: rest) a w := by
  obtain ⟨i, hi, hz, hs, _⟩ := info_byte
  exact arm_bs1 Tryd.underlying37 hi hs hz rfl h1 rfl (fun g w' hg hk hU => h g w' hg (RdB.one1 w' g y _ _ hk) hU)
theorem rd_row {w : World} {b : Nat} {m : List (BitVec 8)} {T : TypeId} {fr : Nat × Nat} (hb : w.heap[b]? = some (.cells (m.map U8).toArray T fr)) (hm : m.length = 32) : RdB w (.slice (some ⟨b, 0, none⟩) 32 32) m := by
  have h := RdB.mk (c := 32) (l := m) (by omega) (by simp [maxLen]) (Bytes.of_row hb m 0 (fun i hi => by simp [hi]))
  rwa [hm] at h
theorem szrow {l : List (BitVec 8)} (h : l.length = 32) : (Tryd.prog.info? 27).map (·.size) = some ((l.map U8).toArray).size := by simp only [List.size_toArray, List.length_map, h]; kernel_rfl
theorem sameZ {a : List (BitVec 8)} (h : a.length = 32) : (zrow8 32).size = ((a.map U8).toArray).size := by simp only [List.size_toArray, List.length_map, h, zrow8_size]
theorem oneAll (a : List (BitVec 8)) : ((a.map U8).toArray).all (·.oneCell') = true := by simp
theorem DigOf256.lt {w : World} {b : Nat} {m : List (BitVec 8)} (h : DigOf256 w b m) : b < w.heap.size := by
  obtain ⟨s, r, ⟨_, h2⟩, _⟩ := h; exact lt_of_heap h2
set_option maxRecDepth 100000 in
set_option maxHeartbeats 3200000 in
theorem leaf_ (w : World) (v : Value) (x : List (BitVec 8)) (hx : RdB w v x) (hxl : x.length ≤ 200000) (hg : Gl256 w) (hf : GlFirst256 w) :
    Calls Tryd.prog 16 #[v] w fun e w' => e = .returned (.agg ((leafH x).map U8).toArray) ∧ Upd [] w w' := by
  obtain ⟨H, hH⟩ : ∃ H, leafH x = H := ⟨_, rfl⟩
  have hHl : H.length = 32 := by rw [← hH]; exact leafH_length x
  have hds : ∀ W b, DigOf256 W b (([] ++ [0]) ++ x) → Gl256 W → Calls Tryd.prog 34 #[.pointer (some ⟨b, 0, none⟩)] W fun e w' => e = .returned (.agg (H.map U8).toArray) ∧ Upd [] W w' := fun W b h1 h2 => by
    have := digsum256 W b _ h1 (by simp; omega) h2
    rwa [show sha256 (([] ++ [0]) ++ x) = H by rw [← hH]; rfl] at this
  obtain ⟨cH, hcH⟩ : ∃ c, (H.map U8).toArray = c := ⟨_, rfl⟩
  have hs := szrow hHl
  have ho := sameZ hHl
  have ha := oneAll H
  rw [hcH] at hds hs ho ha
  rw [hH, hcH]
  have HDS := Lib.hid hds
  have HG := Lib.hid hg
  have HF := Lib.hid hf
  have HX := Lib.hid hx
  have hgl := hg.lt
  have hfl := hf.lt
  have hvl : 0 < x.length → ∀ k, v.ownBlock = some k → k < w.heap.size := fun h0 => hx.lt h0
  have HVL := Lib.hid hvl
  clear hds hg hf hH hHl hcH hx hvl
  go_enter Tryd.func16, Tryd.ntmps16
  go_wp2_with (with_reducible refine arm_alloc (zero_h32 _) ?_)
  intro b4 w4 hb4 k4 hV4 hz4
  change w4.heap[b4]? = some (.cells (zrow8 32) 27 (0, 0)) at k4
  obtain ⟨D, hD⟩ : ∃ D, w4.heap.size = D := ⟨_, rfl⟩
  have hD2 : b4 < D ∧ 1 < D ∧ w.heap.size ≤ D ∧ w.heap.size ≤ b4 := by have := hV4.size; refine ⟨?_, ?_, ?_, ?_⟩ <;> omega
  have HDD := Lib.hid hD2
  have HD := Lib.hid hD
  clear hb4 hz4 hgl hfl hD hD2
  go_wp2_with (fail)
  with_reducible refine (new256 _ (HF.out.upd hV4 (by simp))).mono ?_
  rintro e w5 ⟨rfl, hD5, hU5⟩
  rw [HD.out] at hD5 ⊢
  have hd5 := DigOf256.new hD5
  have k45 := hU5.heap k4 (by simp)
  have hV5 := hV4.trans hU5
  clear hD5 k4 hU5 hV4
  go_wp2_with (with_reducible refine bs1 (y := 0) (by with_unfolding_all exact rfl) ?_)
  intro g6 w6 hg6 hr6 hU6
  have hg6' : g6 ≠ D := by have := (hd5.lt); omega
  have hd6 := hd5.upd hU6 (by simp)
  have k46 := hU6.heap k45 (by simp)
  have hV6 := hV5.trans hU6
  clear hg6 hd5 k45 hU6 hV5
  go_wp2_with (fail)
  with_reducible refine (write256 _ D _ [] [0] hd6 hr6 (by intro _; simp only [Value.ownBlock, ne_eq, Option.some.injEq]; exact hg6') (by simp) (by simp) (HG.out.upd hV6 (by simp)) (by have := HDD.out; omega)).mono ?_
  rintro e w7 ⟨⟨y7, rfl⟩, hd7, hU7⟩
  have k47 := hU7.heap k46 (by have := HDD.out; simp; omega)
  have hV7 := hV6.trans' hU7 (fun i hm hi => by have := HDD.out; simp at hm; omega)
  clear hd6 hr6 hg6' k46 hU7 hV6
  go_wp2_with (fail)
  with_reducible refine (write256 _ D _ _ x hd7 (HX.out.upd0 hV7) (fun h0 h => by have := HVL.out h0 _ h; have := HDD.out; omega) (by simp; omega) (by omega) (HG.out.upd hV7 (by simp)) (by have := HDD.out; omega)).mono ?_
  rintro e w8 ⟨⟨y8, rfl⟩, hd8, hU8⟩
  have k49 := hU8.heap k47 (by have := HDD.out; simp; omega)
  have hV9 := hV7.trans' hU8 (fun i hm hi => by have := HDD.out; simp at hm; omega)
  clear hd7 k47 hU8 hV7
  go_wp2_with (fail)
  with_reducible refine (HDS.out _ _ hd8 (HG.out.upd hV9 (by simp))).mono ?_
  rintro e w10 ⟨rfl, hU10⟩
  have k4a := hU10.heap k49 (by simp)
  have hVa := hV9.trans hU10
  clear hd8 k49 hU10 hV9
  go_wp2_with (with_reducible refine arm_store (by with_unfolding_all exact rfl) (by with_unfolding_all exact rfl) k4a hs ho ha ?_)
  intro w11 k11 hX11 hz11
  go_wp2_with (fail)
  refine bodyPost_ret (v := .agg cH) (results_cell_row rfl _ _ b4 27 _ (0, 0) _ rfl k11 Tryd.underlying27 rfl hs) rfl ⟨rfl, ?_⟩
  exact hVa.trans' hX11 (fun i hm hi => by have := HDD.out; simp at hm; omega)
set_option maxRecDepth 100000 in
set_option maxHeartbeats 3200000 in
theorem node_ (w : World) (x y : List (BitVec 8)) (hx : x.length = 32) (hy : y.length = 32) (hg : Gl256 w) (hf : GlFirst256 w) :
    Calls Tryd.prog 20 #[.agg (x.map U8).toArray, .agg (y.map U8).toArray] w fun e w' => e = .returned (.agg ((nodeH x y).map U8).toArray) ∧ Upd [] w w' := by
  obtain ⟨H, hH⟩ : ∃ H, nodeH x y = H := ⟨_, rfl⟩
  have hHl : H.length = 32 := by rw [← hH]; exact nodeH_length x y
  have hds : ∀ W b, DigOf256 W b ((([] ++ [1]) ++ x) ++ y) → Gl256 W → Calls Tryd.prog 34 #[.pointer (some ⟨b, 0, none⟩)] W fun e w' => e = .returned (.agg (H.map U8).toArray) ∧ Upd [] W w' := fun W b h1 h2 => by
    have := digsum256 W b _ h1 (by simp; omega) h2
    rwa [show sha256 ((([] ++ [1]) ++ x) ++ y) = H by rw [← hH]; rfl] at this
  obtain ⟨cx, hcx⟩ : ∃ c, (x.map U8).toArray = c := ⟨_, rfl⟩
  obtain ⟨cy, hcy⟩ : ∃ c, (y.map U8).toArray = c := ⟨_, rfl⟩
  obtain ⟨cH, hcH⟩ : ∃ c, (H.map U8).toArray = c := ⟨_, rfl⟩
  have hs := szrow hHl
  have ho := sameZ hHl
  have ha := oneAll H
  have HRX : Hid (∀ (W : World) b T fr, W.heap[b]? = some (.cells cx T fr) → RdB W (.slice (some ⟨b, 0, none⟩) 32 32) x) := fun W b T fr h => by rw [← hcx] at h; exact rd_row h hx
  have HRY : Hid (∀ (W : World) b T fr, W.heap[b]? = some (.cells cy T fr) → RdB W (.slice (some ⟨b, 0, none⟩) 32 32) y) := fun W b T fr h => by rw [← hcy] at h; exact rd_row h hy
  have HCH := Lib.hid (show (.agg cH : Value) = .agg ((nodeH x y).map U8).toArray by rw [hH, hcH])
  rw [hcH] at hds hs ho ha
  rw [hcx, hcy, hH, hcH]
  have HDS := Lib.hid hds
  have HG := Lib.hid hg
  have HF := Lib.hid hf
  have HXL := Lib.hid hx
  have HYL := Lib.hid hy
  have hgl := hg.lt
  have hfl := hf.lt
  clear hds hg hf hH hHl hcx hcy hcH hx hy
  go_enter Tryd.func20, Tryd.ntmps20
  go_wp2_with (with_reducible refine arm_box (by with_unfolding_all exact rfl) ?_)
  intro b2 w2 hb2 k2 hU2 hz2
  change w2.heap[b2]? = some (.cells cx 27 (0, 0)) at k2
  go_wp2_with (with_reducible refine arm_box (by with_unfolding_all exact rfl) ?_)
  intro b3 w3 hb3 k3 hU3 hz3
  change w3.heap[b3]? = some (.cells cy 27 (0, 0)) at k3
  go_wp2_with (with_reducible refine arm_alloc (zero_h32 _) ?_)
  intro b4 w4 hb4 k4 hU4 hz4
  change w4.heap[b4]? = some (.cells (zrow8 32) 27 (0, 0)) at k4
  have k24 := hU4.heap (hU3.heap k2 (by simp)) (by simp)
  have k34 := hU4.heap k3 (by simp)
  have hV4 := (hU2.trans hU3).trans hU4
  obtain ⟨D, hD⟩ : ∃ D, w4.heap.size = D := ⟨_, rfl⟩
  have hD2 : b2 < D ∧ b3 < D ∧ b4 < D ∧ 1 < D ∧ w.heap.size ≤ D ∧ w.heap.size ≤ b4 := by have := hV4.size; have := (hU2.trans hU3).size; refine ⟨?_, ?_, ?_, ?_, ?_, ?_⟩ <;> omega
  have HDD := Lib.hid hD2
  have HD := Lib.hid hD
  clear hb2 hb3 hb4 hz2 hz3 hz4 k2 k3 hU2 hU3 hU4 hgl hfl hD hD2
  go_wp2_with (fail)
  with_reducible refine (new256 _ (HF.out.upd hV4 (by simp))).mono ?_
  rintro e w5 ⟨rfl, hD5, hU5⟩
  rw [HD.out] at hD5 ⊢
  have hd5 := DigOf256.new hD5
  have k25 := hU5.heap k24 (by simp)
  have k35 := hU5.heap k34 (by simp)
  have k45 := hU5.heap k4 (by simp)
  have hV5 := hV4.trans hU5
  clear hD5 k24 k34 k4 hU5 hV4
  go_wp2_with (with_reducible refine bs1 (y := 1) (by with_unfolding_all exact rfl) ?_)
  intro g6 w6 hg6 hr6 hU6
  have hg6' : g6 ≠ D := by have := (hd5.lt); omega
  have hd6 := hd5.upd hU6 (by simp)
  have k26 := hU6.heap k25 (by simp)
  have k36 := hU6.heap k35 (by simp)
  have k46 := hU6.heap k45 (by simp)
  have hV6 := hV5.trans hU6
  clear hg6 hd5 k25 k35 k45 hU6 hV5
  go_wp2_with (fail)
  with_reducible refine (write256 _ D _ [] [1] hd6 hr6 (by intro _; simp only [Value.ownBlock, ne_eq, Option.some.injEq]; exact hg6') (by simp) (by simp) (HG.out.upd hV6 (by simp)) (by have := HDD.out; omega)).mono ?_
  rintro e w7 ⟨⟨y7, rfl⟩, hd7, hU7⟩
  have k27 := hU7.heap k26 (by have := HDD.out; simp; omega)
  have k37 := hU7.heap k36 (by have := HDD.out; simp; omega)
  have k47 := hU7.heap k46 (by have := HDD.out; simp; omega)
  have hV7 := hV6.trans' hU7 (fun i hm hi => by have := HDD.out; simp at hm; omega)
  clear hd6 hr6 hg6' k26 k36 k46 hU7 hV6
  go_wp2_with (fail)
  with_reducible refine (write256 _ D _ _ x hd7 (HRX.out _ _ _ _ k27) (by intro _; simp only [Value.ownBlock, ne_eq, Option.some.injEq]; have := HDD.out; omega) (by have := HXL.out; simp; omega) (by have := HXL.out; omega) (HG.out.upd hV7 (by simp)) (by have := HDD.out; omega)).mono ?_
  rintro e w8 ⟨⟨y8, rfl⟩, hd8, hU8⟩
  have k38 := hU8.heap k37 (by have := HDD.out; simp; omega)
  have k48 := hU8.heap k47 (by have := HDD.out; simp; omega)
  have hV8 := hV7.trans' hU8 (fun i hm hi => by have := HDD.out; simp at hm; omega)
  clear hd7 k27 k37 k47 hU8 hV7
  go_wp2_with (fail)
  with_reducible refine (write256 _ D _ _ y hd8 (HRY.out _ _ _ _ k38) (by intro _; simp only [Value.ownBlock, ne_eq, Option.some.injEq]; have := HDD.out; omega) (by have := HXL.out; have := HYL.out; simp; omega) (by have := HYL.out; omega) (HG.out.upd hV8 (by simp)) (by have := HDD.out; omega)).mono ?_
  rintro e w9 ⟨⟨y9, rfl⟩, hd9, hU9⟩
  have k49 := hU9.heap k48 (by have := HDD.out; simp; omega)
  have hV9 := hV8.trans' hU9 (fun i hm hi => by have := HDD.out; simp at hm; omega)
  clear hd8 k38 k48 hU9 hV8
  go_wp2_with (fail)
  with_reducible refine (HDS.out _ _ hd9 (HG.out.upd hV9 (by simp))).mono ?_
  rintro e w10 ⟨rfl, hU10⟩
  have k4a := hU10.heap k49 (by simp)
  have hVa := hV9.trans hU10
  clear hd9 k49 hU10 hV9
  go_wp2_with (with_reducible refine arm_store (by with_unfolding_all exact rfl) (by with_unfolding_all exact rfl) k4a hs ho ha ?_)
  intro w11 k11 hX11 hz11
  go_wp2_with (fail)
  refine bodyPost_ret (v := .agg cH) (results_cell_row rfl _ _ b4 27 _ (0, 0) _ rfl k11 Tryd.underlying27 rfl hs) rfl ⟨rfl, ?_⟩
  exact hVa.trans' hX11 (fun i hm hi => by have := HDD.out; simp at hm; omega)
end Go.Proofs.YtdfoffheolbokaaDoor
