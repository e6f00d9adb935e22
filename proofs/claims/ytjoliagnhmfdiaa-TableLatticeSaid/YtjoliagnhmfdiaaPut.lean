/-
  Put of one entry into the state of zeros.
-/
import Derived.Test.YtjoliagnhmfdiaaInsert
import Derived.Great.FillDense
namespace Go.Proofs.Ytjoliagnhmfdiaa
open Go Go.RowKit Go.Proofs
theorem bsE {ops : Array Oper} {rest : List Oper} {a : Act} {w : World} {Q : Exit → Act → World → Prop} {dst : Option Tmp} {type : TypeId} {pos : String} {after : Array Edge} {x1 : Operand} {l : List Value} {cs : Array Value} (hcs : l.toArray = cs) (hll : l.length = 262) (h1 : a.eval x1 = .agg cs)
    (h : ∀ g w', w.heap.size = g → w'.heap[g]? = some (.cells l.toArray 29 (0, 0)) → Upd [] w w' → wpList Try.prog ops Q rest (a.put dst (.slice (some ⟨g, 0, none⟩) 1 1)) w') :
    wpList Try.prog ops Q (⟨dst, .buildSlice 56 1 #[(0, x1)], type, pos, after, none⟩ :: rest) a w := by
  subst hcs
  obtain ⟨i, hi, ⟨z, hz, hzc⟩, hs, hby⟩ := info_entry
  refine wpList_buildSlice rfl 56 29 1 _ rfl l.toArray i z Try.underlying56 hi hz (by rw [hs]; decide) (by rw [hs]; decide) ?_ (h _ _ rfl (hget_new rfl) ((Upd.refl _ w).alloc _))
  have := Great.fill_whole (s := 262) (by omega) [.agg l.toArray] ((Array.range (1 * i.size)).map (z.cells[· % z.cells.size]!)) (fun v hv => by rw [List.mem_singleton.1 hv]; simp [Value.cells, hll]) (by rw [hs]; simp)
  simp only [List.map_toArray, List.map_cons, List.map_nil, h1, hs]
  rw [hs] at this
  simpa [Value.cells] using this
theorem results_agg_tmp2 {P : Program} {fn : Func} {p u q : Tmp} {ty : TypeId} (h : fn.results = #[.cell p ty, .tmp u, .tmp q]) (tmps : Array Value) (w : World) (g : Nat) (t : TypeId) (cs : Array Value) (fr : Nat × Nat) (d : TypeDesc)
    (hp : tmps.getD p undef = .pointer (some ⟨g, 0, none⟩)) (hg : w.heap[g]? = some (.cells cs t fr))
    (hu : P.underlying ty = some d) (hd : (match d with | .struct _ | .array _ _ => true | _ => false) = true) (hi : (P.info? ty).map (·.size) = some cs.size) {v0 v1 : Value} (hv : tmps.getD u undef = v0) (hw : tmps.getD q undef = v1) :
    (results fn tmps).run P w = .ok (.tuple #[.agg cs, v0, v1]) w := by
  subst hv hw
  have hp' : tmps[p]?.getD undef = .pointer (some ⟨g, 0, none⟩) := by simpa using hp
  simp [results, h, hp', asAddr, run_loadVar_row w g t ty cs fr d hg hu hd hi, Sem.run_bind, Result.andThen]
/-- the state of zeros with these rows -/
def stRows (v : Value) : List Value := (.int .i64 0 :: zeros64.map U8) ++ [.int .i64 0, v]
theorem splice_rows (v : Value) : splice zst 66 [v] = stRows v := by rfl
theorem stRows_length (v : Value) : (stRows v).length = 67 := by simp [stRows, zeros64]
theorem stRows_one (A : Option Addr) (n c : Nat) : ∀ u ∈ stRows (.slice A n c), u.oneCell' = true := by
  intro u hu
  simp only [stRows, List.mem_append, List.mem_cons, List.mem_map, List.not_mem_nil, or_false] at hu
  rcases hu with (rfl | ⟨b, _, rfl⟩) | rfl | rfl <;> rfl
set_option maxRecDepth 100000 in
set_option maxHeartbeats 6400000 in
theorem put_zero (w : World) (e : Ent) (he : e.ok) (h0 : 0 ≤ e.crt.serial) : Calls Try.prog 19 #[.agg zst.toArray, .int .i64 1, .agg (entC e).toArray] w fun x w' => ∃ A c, x = .returned (.tuple #[.agg (stRows (.slice A 1 c)).toArray, .bool true, .int .i64 0]) ∧ Upd [] w w' := by
  have hs : (Try.prog.info? 58).map (·.size) = some zst.toArray.size := by rw [size_st]; simp [zst_length]
  have hsR : ∀ v, (Try.prog.info? 58).map (·.size) = some (stRows v).toArray.size := fun v => by rw [size_st]; simp [stRows_length]
  have hoR : ∀ v, zst.toArray.size = (stRows v).toArray.size := fun v => by simp [stRows_length, zst_length]
  have hse := szent he
  have ha := all_of_one zst_one
  have hk : ∀ v : Value, 66 + ([v] : List Value).length ≤ zst.length := fun v => by rw [zst_length]; simp
  have hc0 : zst[66]? = some (.slice none 0 0) := by rfl
  have hc1 : zst[0]? = some (.int .i64 0) := by rfl
  have hce : (entC e)[0]? = some (.int .i64 e.crt.serial) := by rfl
  have HOW : Hid (∀ W, Calls Try.prog 23 #[.agg zst.toArray] W fun e w' => e = .returned (.agg zst.toArray) ∧ Upd [] W w') := own_zero
  have HPL : Hid (∀ W x, Calls Try.prog 24 #[.slice none 0 0, .int .i64 x] W fun e w' => e = .returned (.tuple #[.int .i64 0, .bool false]) ∧ Upd [] W w') := place_nil
  have HZ0 : Hid (∀ W, (zeroValue 58).run Try.prog W = .ok (.agg zst.toArray) W) := zero_st
  have HSR : Hid (∀ v : Value, splice zst 66 [v] = stRows v) := splice_rows
  obtain ⟨sr, hsr⟩ : ∃ x, e.crt.serial = x := ⟨_, rfl⟩
  rw [hsr] at h0 hce
  have hlt : decide (sr < 0) = false := by simp; omega
  have HE := Lib.hid he
  have hel := entC_length he
  obtain ⟨z, hz⟩ : ∃ z, zst = z := ⟨_, rfl⟩
  obtain ⟨le, hle⟩ : ∃ z, entC e = z := ⟨_, rfl⟩
  rw [hz] at hs hoR ha hk hc0 hc1 HOW HZ0 HSR ⊢
  rw [hle] at hse hce hel ⊢
  have HLE := Lib.hid hle
  clear hz hle he hsr
  go_enter Try.func19, Try.ntmps19
  go_wp2_with (with_reducible refine arm_box (by with_unfolding_all exact rfl) ?_)
  intro b3 w1 hb1 k1 hU1 hz1
  change w1.heap[b3]? = some (.cells z.toArray 58 (0, 0)) at k1
  go_wp2_with (with_reducible refine arm_box (by with_unfolding_all exact rfl) ?_)
  intro b5 w2 hb2 k2 hU2 hz2
  change w2.heap[b5]? = some (.cells le.toArray 29 (0, 0)) at k2
  go_wp2_with (with_reducible refine arm_alloc (HZ0.out _) ?_)
  intro b6 w3 hb3 k3 hU3 hz3
  change w3.heap[b6]? = some (.cells z.toArray 58 (0, 0)) at k3
  have k13 := hU3.heap (hU2.heap k1 (by simp)) (by simp)
  have k23 := hU3.heap k2 (by simp)
  have hV3 := (hU1.trans hU2).trans hU3
  have hl3 : w.heap.size ≤ b3 := by omega
  have hl6 : w.heap.size ≤ b6 := by have h1 := hU1.size; have h2 := hU2.size; omega
  have n35 : b5 ≠ b3 := by have := lt_of_heap k1; omega
  have n36 : b6 ≠ b3 := by have h1 := lt_of_heap k1; have h2 := hU2.size; omega
  clear k1 k2 hb1 hU1 hz1 hb2 hU2 hz2 hb3 hU3 hz3
  go_wp2_with (with_reducible refine arm_load (by with_unfolding_all exact rfl) k13 Try.underlying58 (by with_unfolding_all exact rfl) hs ?_)
  with_reducible refine (HOW.out _).mono ?_
  rintro x w4 ⟨rfl, hU4⟩
  have k14 := hU4.heap k13 (by simp)
  have k24 := hU4.heap k23 (by simp)
  have k34 := hU4.heap k3 (by simp)
  have hV4 := hV3.trans hU4
  clear k13 k23 k3 hV3 hU4
  go_wp2_with (with_reducible refine arm_store (by with_unfolding_all exact rfl) (by with_unfolding_all exact rfl) k14 hs rfl ha ?_)
  intro w5 k15 hX5 hz5
  have k25 := hX5.heap k24 (by simpa using n35)
  have k35 := hX5.heap k34 (by simpa using n36)
  have hV5 := hV4.trans' hX5 (fun i hm hi => by simp at hm; omega)
  clear k14 k24 k34 hV4 hX5 hz5
  have c3 : w5.cell? ⟨b3, 0, none⟩ = some (.int .i64 0) := by rw [cell_of_row _ _ _ _ _ _ k15]; simpa using hc1
  have c36 : w5.cell? ⟨b3, 66, none⟩ = some (.slice none 0 0) := by rw [cell_of_row _ _ _ _ _ _ k15]; simpa using hc0
  have c5 : w5.cell? ⟨b5, 0, none⟩ = some (.int .i64 sr) := by rw [cell_of_row _ _ _ _ _ _ k25]; simpa using hce
  go_wp2_with (fail)
  with_reducible refine (HPL.out _ _).mono ?_
  rintro x w6 ⟨rfl, hU6⟩
  have k16 := hU6.heap k15 (by simp)
  have k26 := hU6.heap k25 (by simp)
  have k36 := hU6.heap k35 (by simp)
  have hV6 := hV5.trans hU6
  have c66 := hU6.cell c36 (by simp)
  clear k15 k25 k35 hV5 hU6 c3 c36 c5
  go_wp2_with (first
    | (with_reducible refine arm_load (by with_unfolding_all exact rfl) k26 Try.underlying29 (by with_unfolding_all exact rfl) hse ?_)
    | (with_reducible refine bsE rfl hel (by with_unfolding_all exact rfl) ?_))
  intro g w7 hg7 k7 hU7
  have k17 := hU7.heap k16 (by simp)
  have k37 := hU7.heap k36 (by simp)
  have hV7 := hV6.trans hU7
  rw [← HLE.out] at k7
  clear k16 k26 k36 hV6 hU7 c66 hg7
  go_wp2_with (fail)
  with_reducible refine (insert_zero w7 g e _ _ HE.out k7).mono ?_
  rintro x w8 ⟨A, c, rfl, hU8⟩
  have k18 := hU8.heap k17 (by simp)
  have k38 := hU8.heap k37 (by simp)
  have hV8 := hV7.trans hU8
  have hk8 := hk (.slice A 1 c)
  have hsR8 := hsR (.slice A 1 c)
  have hoR8 := hoR (.slice A 1 c)
  have haR8 := all_of_one (stRows_one A 1 c)
  clear k17 k37 hV7 hU8 k7
  go_wp2_with (with_reducible refine arm_store_part (g := b3) (k := 66) (cs := [.slice A 1 c]) (by with_unfolding_all exact rfl) (by with_unfolding_all exact rfl) k18 (by with_unfolding_all exact rfl) hk8 (by with_unfolding_all exact size_rows) (one_list1 (by with_unfolding_all exact rfl)) ?_)
  intro w9 k19 hX9 hz9
  rw [HSR.out] at k19
  have k39 := hX9.heap k38 (by simpa using n36)
  have hV9 := hV8.trans' hX9 (fun i hm hi => by simp at hm; omega)
  clear k18 k38 hV8 hX9 hz9
  go_wp2_with (first
    | (with_reducible refine arm_load (by with_unfolding_all exact rfl) k19 Try.underlying58 (by with_unfolding_all exact rfl) hsR8 ?_)
    | (with_reducible refine arm_store (by with_unfolding_all exact rfl) (by with_unfolding_all exact rfl) k39 hsR8 hoR8 haR8 ?_))
  intro wz kz hXz hzz
  go_wp2_with (fail)
  refine bodyPost_ret (v := .tuple #[.agg (stRows (.slice A 1 c)).toArray, .bool true, .int .i64 0]) (results_agg_tmp2 rfl _ _ b6 58 _ (0, 0) _ rfl kz Try.underlying58 rfl hsR8 rfl rfl) rfl ⟨A, c, rfl, ?_⟩
  exact hV9.trans' hXz (fun i hm hi => by simp at hm; omega)
end Go.Proofs.Ytjoliagnhmfdiaa
