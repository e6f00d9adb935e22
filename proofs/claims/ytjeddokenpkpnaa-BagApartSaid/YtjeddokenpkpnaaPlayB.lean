/-
  laid of Play.
-/
import Derived.Test.YtjeddokenpkpnaaPlay
namespace Go.Proofs.Ytjeddokenpkpnaa
open Go Go.RowKit Go.Proofs Go.Maps
theorem built_msg4 (i f t : Int) (a : Option Addr) (n c : Nat) : Try.prog.built 32 [(0, .int .i64 i), (1, .int .i64 f), (2, .int .i64 t), (3, .slice a n c)] = some (msgC i f t (.slice a n c)) := by kernel_rfl
theorem yields_build {P : Program} {S : World → Prop} {a : Act} {dst : Option Tmp} {ty type : TypeId} {pos : String} {after : Array Edge} {gd : Option (Nat × Bool)} {parts : Array (Nat × Operand)} {cs : Array Value}
    (hf : P.built ty (parts.map fun (i, x) => (i, a.eval x)).toList = some cs) : ∀ w, S w → (execOp a.eval ⟨dst, .build ty parts, type, pos, after, gd⟩).run P w = .ok (.value (.agg cs)) w := by
  intro w _
  unfold execOp
  simp only [run_build w ty (parts.map fun (i, x) => (i, a.eval x)) cs hf, Sem.run_bind, Sem.run_pure, Result.andThen_ok]
theorem yields_build4 {P : Program} {S : World → Prop} {a : Act} {dst : Option Tmp} {ty type : TypeId} {pos : String} {after : Array Edge} {gd : Option (Nat × Bool)} {x0 x1 x2 x3 : Operand} {v0 v1 v2 v3 : Value} {cs : Array Value}
    (h0 : a.eval x0 = v0) (h1 : a.eval x1 = v1) (h2 : a.eval x2 = v2) (h3 : a.eval x3 = v3) (hf : P.built ty [(0, v0), (1, v1), (2, v2), (3, v3)] = some cs) : ∀ w, S w → (execOp a.eval ⟨dst, .build ty #[(0, x0), (1, x1), (2, x2), (3, x3)], type, pos, after, gd⟩).run P w = .ok (.value (.agg cs)) w := by
  subst h0 h1 h2 h3
  exact yields_build (by simpa using hf)
/-- one bool, laid into a new block -/
theorem bsL {ops : Array Oper} {rest : List Oper} {a : Act} {w : World} {Q : Exit → Act → World → Prop} {dst : Option Tmp} {type : TypeId} {pos : String} {after : Array Edge} {x1 : Operand} {y : Bool} (h1 : a.eval x1 = .bool y)
    (h : ∀ g w', w.heap.size = g → w'.heap[g]? = some (.cells (bcell y).toArray 4 (0, 0)) → Upd [] w w' → wpList Try.prog ops Q rest (a.put dst (.slice (some ⟨g, 0, none⟩) 1 1)) w') :
    wpList Try.prog ops Q (⟨dst, .buildSlice 35 1 #[(0, x1)], type, pos, after, none⟩ :: rest) a w := by
  obtain ⟨i, hi, hz, hs, _⟩ := eltL.hi
  exact arm_bs1 Try.underlying35 hi hs hz rfl h1 rfl h
theorem appendL {ops : Array Oper} {rest : List Oper} {a : Act} {w : World} {Q : Exit → Act → World → Prop} {dst : Option Tmp} {type : TypeId} {pos : String} {after : Array Edge} {s x : Operand} {B g : Nat} {v : Value} {l : List Bool} {y : Bool} {T : TypeId} {fr : Nat × Nat}
    (hs : a.eval s = v) (hx : a.eval x = .slice (some ⟨g, 0, none⟩) 1 1) (hown : OwnL w B v l) (hg : w.heap[g]? = some (.cells (bcell y).toArray T fr)) (hl : l.length ≤ 1000000) (hbase : B ≤ w.heap.size)
    (h : ∀ v' w', OwnL w' B v' (l ++ [y]) → Upd v.ownBlock.toList w w' → (v'.ownBlock = v.ownBlock ∨ v'.ownBlock = some w.heap.size) → wpList Try.prog ops Q rest (a.put dst v') w') :
    wpList Try.prog ops Q (⟨dst, .call { callee := .builtin .append, args := #[s, x], argTypes := #[35, 35] }, type, pos, after, none⟩ :: rest) a w :=
  appendA eltL hs hx hown hg rfl (fun u hu => by rw [List.mem_singleton.1 hu]; rfl) (by rw [List.length_map]; exact hl) (by omega) hbase (fun v' w' h1 h2 h3 => h v' w' (by unfold OwnL; rw [List.map_append]; exact h1) h2 h3)
theorem size_msgs : (Try.prog.info? 33).map (·.size) = some 1 := by kernel_rfl
theorem size_bools : (Try.prog.info? 35).map (·.size) = some 1 := by kernel_rfl
set_option maxRecDepth 100000 in
set_option maxHeartbeats 6400000 in
theorem laid_ (w : World) (lo bp : Nat) (va vt : Value) (here : Nat) (al : List Ent) (tk : List Bool) (h : PlayAt w lo bp va vt here al tk) (hlo : lo ≤ w.heap.size) (hs : al.length < 9300) (hh : here ≤ 9300) (id fr to : Int) (v : Value) (b : List (BitVec 8)) (hv : RdB w v b) (hb : b.length ≤ 1024) :
    Calls Try.prog 39 #[.pointer (some ⟨bp, 0, none⟩), .int .i64 ((al.length : Int) + 1), .agg (msgC id fr to v)] w fun e w' => ∃ va' vt' v', e = .returned (.bool true) ∧ PlayAt w' lo bp va' vt' (here + 1) (al ++ [⟨(al.length : Int) + 1, fr, to, v', b⟩]) (tk ++ [false]) ∧ Upd (bp :: (va.ownBlock.toList ++ vt.ownBlock.toList)) w w' := by
  obtain ⟨A, c, eA⟩ := OwnA.isSlice h.all.row
  obtain ⟨B, d, eB⟩ := OwnA.isSlice h.tks
  rw [List.length_map] at eA eB
  rw [h.len] at eB
  subst eA eB
  obtain ⟨n, hn⟩ : ∃ n, al.length = n := ⟨_, rfl⟩
  rw [hn] at h hs ⊢
  have HN := Lib.hid hn
  have HS : Hid (n < 9300) := hs
  have H := Lib.hid h
  have HV := Lib.hid hv
  have HB : Hid (b.length ≤ 1024) := hb
  have HLO := Lib.hid hlo
  have hni : (n : Int) ≤ 9300 := by omega
  have hhi : (here : Int) ≤ 9300 := by omega
  obtain ⟨VA, hVA⟩ : ∃ x, Value.slice A n c = x := ⟨_, rfl⟩
  have hcells := h.cells
  clear h hn hs hv hb hlo hh
  go_enter Try.func39, Try.ntmps39
  clear hVA VA
  go_wp2_with (with_reducible refine arm_box (by with_unfolding_all exact rfl) ?_)
  intro b5 w1 hb5 k1 hU1 hz1
  change w1.heap[b5]? = some (.cells (msgC id fr to v) 32 (0, 0)) at k1
  have hp1 := hU1.heap hcells (by simp)
  have c0 : w1.cell? ⟨bp, 0, none⟩ = some (.slice A n c) := by rw [cell_of_row _ _ _ _ _ _ hp1]; rfl
  have c3 : w1.cell? ⟨b5, 3, none⟩ = some v := by rw [cell_of_row _ _ _ _ _ _ k1]; rfl
  have HU1 := Lib.hid hU1
  have HB5 : Hid (w.heap.size = b5) := hb5
  clear hcells hb5 hU1 hz1
  go_wp2_with (refine append_rd rfl _ _ rfl w1.heap.size _ [] (by with_unfolding_all exact rfl) (OwnB.nil _ _) _ b (by with_unfolding_all exact rfl) (HV.out.upd0 HU1.out) (by have := HB.out; simp; omega) (Nat.le_refl _) ?_)
  intro vb w2 hO2 _ hU2 _
  have hU2' : Upd [] w1 w2 := hU2
  have k2 := hU2'.heap k1 (by simp)
  have hp2 := hU2'.heap hp1 (by simp)
  obtain ⟨Q, q, eq⟩ := OwnB.isSlice hO2
  subst eq
  have HO2 := Lib.hid hO2
  have HU2 := Lib.hid (HU1.out.trans hU2')
  have HS2 : Hid (w1.heap.size ≤ w2.heap.size) := hU2'.size
  have H2 := Lib.hid (H.out.upd0 HU2.out)
  clear k1 hp1 c0 c3 hU2 hU2' hO2
  have hne : b5 ≠ bp := fun e => by have := lt_of_heap H.out.cells; have := HB5.out; omega
  have hnv : ∀ k, (Value.slice A n c).ownBlock = some k → k ≠ b5 := fun k hk => by have := (H.out.all.row.lt k hk).2; have := HB5.out; omega
  have hpv : ∀ k, (Value.slice A n c).ownBlock = some k → k ≠ bp := fun k hk e => by
    obtain ⟨C, fr', h1⟩ := own_type H2.out.all.row.2 hk
    rw [e] at h1
    exact heap_ne h1 H2.out.cells (by decide) rfl
  have HC1 : Hid (∀ W, Upd (bp :: (Value.slice A n c).ownBlock.toList) w2 W → W.cell? ⟨b5, 1, none⟩ = some (.int .i64 fr)) := fun W hW => by rw [cell_of_row _ _ _ _ _ _ (hW.heap k2 (by simp; exact ⟨hne, fun e => hnv b5 e rfl⟩))]; rfl
  have HC2 : Hid (∀ W, Upd (bp :: (Value.slice A n c).ownBlock.toList) w2 W → W.cell? ⟨b5, 2, none⟩ = some (.int .i64 to)) := fun W hW => by rw [cell_of_row _ _ _ _ _ _ (hW.heap k2 (by simp; exact ⟨hne, fun e => hnv b5 e rfl⟩))]; rfl
  have HNE : Hid (b5 ≠ bp) := hne
  have HNV := Lib.hid hnv
  have HPV := Lib.hid hpv
  have hbm := built_msg4 ((n : Int) + 1) fr to Q b.length q
  clear hne hnv hpv
  go_upto_region 5 with (fail)
  go_simp
  refine wp_region_orders [0, 1, 2, 3, 5, 6, 7, 8, 9, 10, 11] (.step 4 (.step 12 (.step 13 (.step 14 (.step 15 (.step 16 .none .none) .none) .none) .none) .none) (.step 12 (.step 4 (.step 13 (.step 14 (.step 15 (.step 16 .none .none) .none) .none) .none) .none) .none)) (Upd (bp :: (Value.slice A n c).ownBlock.toList) w2) (by kernel_rfl) (by kernel_rfl) (Upd.refl _ _).drew ?_
  refine takeO_cons _ (.pointer (some ⟨bp, 0, none⟩)) rfl (by kernel_rfl) (yields_move (by kernel_rfl)) ?_
  refine takeO_cons _ (.pointer (some ⟨bp, 0, none⟩)) rfl (by kernel_rfl) (yields_move (by kernel_rfl)) ?_
  refine takeO_cons _ (.pointer (some ⟨bp, 0, none⟩)) rfl (by kernel_rfl) (fun w _ => by kernel_rfl) ?_
  refine takeO_cons _ (.pointer (some ⟨bp, 0, none⟩)) rfl (by kernel_rfl) (fun w _ => by kernel_rfl) ?_
  refine takeO_cons _ (.int .i64 ((n : Int) + 1)) rfl (by kernel_rfl) (yields_move (by kernel_rfl)) ?_
  refine takeO_cons _ (.pointer (some ⟨b5, 1, none⟩)) rfl (by kernel_rfl) (fun w _ => by kernel_rfl) ?_
  refine takeO_cons _ (.int .i64 fr) rfl (by kernel_rfl) (yields_cell (p := ⟨b5, 1, none⟩) (by kernel_rfl) HC1.out Try.underlying3 rfl) ?_
  refine takeO_cons _ (.pointer (some ⟨b5, 2, none⟩)) rfl (by kernel_rfl) (fun w _ => by kernel_rfl) ?_
  refine takeO_cons _ (.int .i64 to) rfl (by kernel_rfl) (yields_cell (p := ⟨b5, 2, none⟩) (by kernel_rfl) HC2.out Try.underlying3 rfl) ?_
  refine takeO_cons _ (.slice Q b.length q) rfl (by kernel_rfl) (yields_move (by kernel_rfl)) ?_
  refine takeO_cons _ (.agg (msgC ((n : Int) + 1) fr to (.slice Q b.length q))) rfl (by kernel_rfl) (yields_build4 (by kernel_rfl) (by kernel_rfl) (by kernel_rfl) (by kernel_rfl) hbm) ?_
  refine takeO_nil (by simp [Ord.first]) ?_
  have hD2 : Upd [] w2 w2.drew := (Upd.refl _ _).drew
  have hcs : (msgC ((n : Int) + 1) fr to (.slice Q b.length q)).size = 4 := rfl
  have HTAIL : ∀ (a : Act) (W : World), True := fun _ _ => trivial
  refine ordP_step _ (by simp only [List.getElem?_toArray, List.getElem?_cons_succ, List.getElem?_cons_zero]; rfl) ?_ ?_
  · go_simp
    have hc4 : (w2.drew).cell? ⟨bp, 0, none⟩ = some (.slice A n c) := by rw [cell_of_row _ _ _ _ _ _ (hD2.heap hp2 (by simp))]; rfl
    go_wp2_with (fail)
    clear hc4
    refine ord_more (by simp [Ord.first]) hD2.of0 ?_
    refine ordP_step _ (by simp only [List.getElem?_toArray, List.getElem?_cons_succ, List.getElem?_cons_zero]; rfl) ?_ ordP_none
    with_reducible refine bsA eltM hcs (by with_unfolding_all exact rfl) ?_
    intro g3 w3 hg3 k3 hU3
    go_wp2_with (fail)
    change w3.heap[g3]? = some (.cells (msgC ((n : Int) + 1) fr to (.slice Q b.length q)).toList.toArray 32 (0, 0)) at k3
    have hW3 := hD2.trans hU3
    refine ord_more (by simp [Ord.first]) hW3.of0 ?_
    refine ordP_step _ (by simp only [List.getElem?_toArray, List.getElem?_cons_succ, List.getElem?_cons_zero]; rfl) ?_ ordP_none
    have h3 := H2.out.upd0 hW3
    have hR3 := h3.all.row
    have hB3 : lo ≤ w3.heap.size := by have := HLO.out; have := (HU2.out.trans hW3).size; omega
    have ha3 : ∀ u ∈ (msgC ((n : Int) + 1) fr to (.slice Q b.length q)).toList, u.oneCell' = true := one_msgL _ _ _ rfl
    have hl3 : (al.map fun t => t.cells.toList).length ≤ 1000000 := by rw [List.length_map, HN.out]; have := HS.out; omega
    with_reducible refine appendA eltM (by with_unfolding_all exact rfl) (by with_unfolding_all exact rfl) hR3 k3 (by with_unfolding_all exact rfl) ha3 hl3 (by decide) hB3 ?_
    intro v4 w4 hM4 hU4 hb4
    go_wp2_with (fail)
    have hT4 : Upd (bp :: (Value.slice A n c).ownBlock.toList) w2 w4 := (hW3.of0 (T := bp :: (Value.slice A n c).ownBlock.toList)).trans' hU4 (fun i hm _ => List.mem_cons_of_mem _ hm)
    refine ord_more (by simp [Ord.first]) hT4 ?_
    have hp4 := hU4.heap (hW3.heap hp2 (by simp)) (fun hm => HPV.out bp (by simpa using hm) rfl)
    have hv4c : v4.cells = #[v4] ∧ v4.oneCell' = true := by obtain ⟨A4, c4, e4⟩ := OwnA.isSlice hM4; rw [e4]; exact ⟨rfl, rfl⟩
    have hM4' : OwnM w4 lo v4 (al ++ [⟨(n : Int) + 1, fr, to, .slice Q b.length q, b⟩]) := by
      have hbod : ∀ t ∈ al, ∀ k, t.v.ownBlock = some k → k ∉ (Value.slice A n c).ownBlock.toList := fun t ht k hk hm => hR3.ne_row (h3.all.bodies t ht) (by decide) k hk (by simpa using hm)
      have hO3 := HO2.out.upd0 hW3
      have hO4 := hO3.upd hU4 (fun k hk hm => hR3.ne_row hO3 (by decide) k hk (by simpa using hm))
      refine ⟨by rw [List.map_append]; exact hM4, fun t ht => ?_, List.pairwise_append.2 ⟨h3.all.apart, List.pairwise_singleton _ _, fun a ha z hz k hk => ?_⟩⟩
      · rcases List.mem_append.1 ht with ht | ht
        · exact (h3.all.bodies t ht).upd hU4 (hbod t ht)
        · rw [List.mem_singleton.1 ht]
          exact hO4.mono (fun k hk => by have := (HO2.out.lt k hk).1; have := HU1.out.size; have := HLO.out; omega)
      · rw [List.mem_singleton.1 hz]
        intro hk2
        have h1 := (HO2.out.lt k hk2).1
        have h4 := ((H.out.all.bodies a ha).lt k hk).2
        have := HU1.out.size
        omega
    have hT4l := HU2.out
    have hTK4 : OwnL w4 lo (.slice B n d) tk := OwnA.upd h3.tks hU4 (fun k hk hm => hR3.ne_row h3.tks.2 (by decide) k hk (by simpa using hm))
    refine ordP_step _ (by simp only [List.getElem?_toArray, List.getElem?_cons_succ, List.getElem?_cons_zero]; rfl) ?_ ordP_none
    go_wp2_with (fail)
    refine ord_more (by simp [Ord.first]) hT4 ?_
    refine ordP_step _ (by simp only [List.getElem?_toArray, List.getElem?_cons_succ, List.getElem?_cons_zero]; rfl) ?_ ordP_none
    go_wp2_with (fail)
    refine ord_more (by simp [Ord.first]) hT4 ?_
    refine ordP_step _ (by simp only [List.getElem?_toArray, List.getElem?_cons_succ, List.getElem?_cons_zero]; rfl) ?_ ordP_none
    have hp4s : (0 : Nat) < (playC (.slice A n c) (.slice B n d) here).size := by simp [playC]
    with_reducible refine arm_store_at (by with_unfolding_all exact rfl) (by with_unfolding_all exact rfl) hp4 hp4s hv4c.1 size_msgs hv4c.2 ?_
    intro w5 hp5 hX5 hz5
    change w5.heap[bp]? = some (.cells (playC v4 (.slice B n d) here) 58 (0, 0)) at hp5
    go_wp2_with (fail)
    refine ord_last (hT4.trans' hX5 (fun i hm _ => by rw [List.mem_singleton.1 hm]; simp)) ?_
    have hbpT : ∀ k, footM v4 (al ++ [⟨(n : Int) + 1, fr, to, .slice Q b.length q, b⟩]) k → k ∉ [bp] := fun k hk hm => by
      have e := List.mem_singleton.1 hm
      subst e
      rcases hk with hk | ⟨t, ht, hk⟩
      · obtain ⟨C, fr', h1⟩ := own_type hM4'.row.2 hk; exact heap_ne h1 hp4 (by decide) rfl
      · obtain ⟨C, fr', h1⟩ := own_type (hM4'.bodies t ht) hk; exact heap_ne h1 hp4 (by decide) rfl
    have HM5 := Lib.hid (hM4'.upd hX5 hbpT)
    have HT5 : Hid (OwnL w5 lo (.slice B n d) tk) := OwnA.upd hTK4 hX5 (fun k hk hm => by
      obtain ⟨C, fr', h1⟩ := own_type hTK4.2 hk
      rw [List.mem_singleton.1 hm] at h1
      exact heap_ne h1 hp4 (by decide) rfl)
    have HU5 : Hid (Upd (bp :: (Value.slice A n c).ownBlock.toList) w w5) := (HU2.out.of0.trans (hT4.trans' hX5 (fun i hm _ => by rw [List.mem_singleton.1 hm]; simp)))
    have cB : w5.cell? ⟨bp, 1, none⟩ = some (.slice B n d) := by rw [cell_of_row _ _ _ _ _ _ hp5]; rfl
    have HSZ5 : Hid (lo ≤ w5.heap.size) := by show lo ≤ w5.heap.size; have := HU5.out.size; have := HLO.out; omega
    clear hp4 hp4s hX5 hz5 hbpT hM4 hU4 hb4 hp2 k2 hM4' hTK4 hT4 hR3 hB3 ha3 hl3 h3 hv4c hT4l k3 hU3 hW3 hD2 hcs HTAIL hbm hg3
    go_wp2_with (with_reducible refine bsL (by with_unfolding_all exact rfl) ?_)
    intro g6 w6 hg6 k6 hU6
    have hT6 : OwnL w6 lo (.slice B n d) tk := OwnA.upd0 HT5.out hU6
    have hp6 := hU6.heap hp5 (by simp)
    have HM6 := Lib.hid (HM5.out.upd0 hU6)
    have HU6 := Lib.hid (HU5.out.trans0 hU6)
    have hB6 : lo ≤ w6.heap.size := by have := HSZ5.out; have := hU6.size; omega
    have hl6 : tk.length ≤ 1000000 := by rw [H.out.len, HN.out]; have := HS.out; omega
    clear hp5 hg6 hU6
    go_wp2_with (with_reducible refine appendL (by with_unfolding_all exact rfl) (by with_unfolding_all exact rfl) hT6 k6 hl6 hB6 ?_)
    intro v7 w7 hT7 hU7 hb7
    have hp7 := hU7.heap hp6 (fun hm => by
      obtain ⟨C, fr', h1⟩ := own_type hT6.2 (k := bp) (by simpa using hm)
      exact heap_ne h1 hp6 (by decide) rfl)
    have HM7 := Lib.hid (HM6.out.upd hU7 (fun k hk hm => by
      obtain ⟨C, fr', h1⟩ := own_type hT6.2 (k := k) (by simpa using hm)
      rcases hk with hk | ⟨t, ht, hk⟩
      · obtain ⟨C', fr'', h2⟩ := own_type HM6.out.row.2 hk; exact heap_ne h1 h2 (by decide) rfl
      · obtain ⟨C', fr'', h2⟩ := own_type (HM6.out.bodies t ht) hk; exact heap_ne h1 h2 (by decide) rfl))
    have HT7 := Lib.hid hT7
    have HU7 : Hid (Upd (bp :: ((Value.slice A n c).ownBlock.toList ++ (Value.slice B n d).ownBlock.toList)) w w7) := (HU6.out.mono (fun i hm _ => by simp at hm ⊢; rcases hm with h | h <;> simp [h])).trans' hU7 (fun i hm _ => by simp at hm ⊢; simp [hm])
    have hv7 : v7.cells = #[v7] ∧ v7.oneCell' = true := by obtain ⟨B7, d7, e7⟩ := OwnA.isSlice hT7; rw [e7]; exact ⟨rfl, rfl⟩
    clear hp6 hB6 hl6 k6 hT6 hT7 hU7 hb7
    go_wp2_with (with_reducible refine arm_store_at (by with_unfolding_all exact rfl) (by with_unfolding_all exact rfl) hp7 (by simp [playC]) hv7.1 size_bools hv7.2 ?_)
    intro w8 hp8 hX8 hz8
    change w8.heap[bp]? = some (.cells (playC v4 v7 here) 58 (0, 0)) at hp8
    have HX8 := Lib.hid hX8
    have cH : w8.cell? ⟨bp, 2, none⟩ = some (.int .i64 here) := by rw [cell_of_row _ _ _ _ _ _ hp8]; rfl
    clear hX8 hz8 hv7 cB
    go_wp2_with (with_reducible refine arm_store_at (by with_unfolding_all exact rfl) (by with_unfolding_all exact rfl) hp8 (by simp [playC]) (by with_unfolding_all exact rfl) size_int1 (by with_unfolding_all exact rfl) ?_)
    intro w9 hp9 hX9 hz9
    change w9.heap[bp]? = some (.cells (playC v4 v7 ((here : Int) + 1)) 58 (0, 0)) at hp9
    have HX9 := Lib.hid (HX8.out.trans hX9)
    have HP7 := Lib.hid hp7
    have HP9 := Lib.hid hp9
    clear hX9 hz9 hp8 cH hp7 hp9
    go_wp2_with (fail)
    go_ret
    refine ⟨v4, v7, .slice Q b.length q, rfl, ⟨HP9.out, HM7.out.upd HX9.out (fun k hk hm => by
        have e := List.mem_singleton.1 hm
        subst e
        rcases hk with hk | ⟨t, ht, hk⟩
        · obtain ⟨C, fr', h1⟩ := own_type HM7.out.row.2 hk; exact heap_ne h1 HP7.out (by decide) rfl
        · obtain ⟨C, fr', h1⟩ := own_type (HM7.out.bodies t ht) hk; exact heap_ne h1 HP7.out (by decide) rfl), OwnA.upd HT7.out HX9.out (fun k hk hm => by
        obtain ⟨C, fr', h1⟩ := own_type HT7.out.2 hk
        rw [List.mem_singleton.1 hm] at h1
        exact heap_ne h1 HP7.out (by decide) rfl), by rw [List.length_append, List.length_append, H.out.len]; rfl, H.out.count.push _ (by rw [HN.out]), H.out.low, fun a ha => ?_, by rw [List.length_append, HN.out]; have := HS.out; simp; omega⟩, HU7.out.trans' HX9.out (fun i hm _ => by rw [List.mem_singleton.1 hm]; simp)⟩
    rcases List.mem_append.1 ha with ha | ha
    · exact H.out.short a ha
    · rw [List.mem_singleton.1 ha]; exact HB.out
  · refine ordP_step _ (by simp only [List.getElem?_toArray, List.getElem?_cons_succ, List.getElem?_cons_zero]; rfl) ?_ ordP_none
    go_simp
    with_reducible refine bsA eltM hcs (by with_unfolding_all exact rfl) ?_
    intro g3 w3 hg3 k3 hU3
    go_wp2_with (fail)
    change w3.heap[g3]? = some (.cells (msgC ((n : Int) + 1) fr to (.slice Q b.length q)).toList.toArray 32 (0, 0)) at k3
    have hW3 := hD2.trans hU3
    refine ord_more (by simp [Ord.first]) hW3.of0 ?_
    refine ordP_step _ (by simp only [List.getElem?_toArray, List.getElem?_cons_succ, List.getElem?_cons_zero]; rfl) ?_ ordP_none
    have hc4 : (w3).cell? ⟨bp, 0, none⟩ = some (.slice A n c) := by rw [cell_of_row _ _ _ _ _ _ (hW3.heap hp2 (by simp))]; rfl
    go_wp2_with (fail)
    clear hc4
    refine ord_more (by simp [Ord.first]) hW3.of0 ?_
    refine ordP_step _ (by simp only [List.getElem?_toArray, List.getElem?_cons_succ, List.getElem?_cons_zero]; rfl) ?_ ordP_none
    have h3 := H2.out.upd0 hW3
    have hR3 := h3.all.row
    have hB3 : lo ≤ w3.heap.size := by have := HLO.out; have := (HU2.out.trans hW3).size; omega
    have ha3 : ∀ u ∈ (msgC ((n : Int) + 1) fr to (.slice Q b.length q)).toList, u.oneCell' = true := one_msgL _ _ _ rfl
    have hl3 : (al.map fun t => t.cells.toList).length ≤ 1000000 := by rw [List.length_map, HN.out]; have := HS.out; omega
    with_reducible refine appendA eltM (by with_unfolding_all exact rfl) (by with_unfolding_all exact rfl) hR3 k3 (by with_unfolding_all exact rfl) ha3 hl3 (by decide) hB3 ?_
    intro v4 w4 hM4 hU4 hb4
    go_wp2_with (fail)
    have hT4 : Upd (bp :: (Value.slice A n c).ownBlock.toList) w2 w4 := (hW3.of0 (T := bp :: (Value.slice A n c).ownBlock.toList)).trans' hU4 (fun i hm _ => List.mem_cons_of_mem _ hm)
    refine ord_more (by simp [Ord.first]) hT4 ?_
    have hp4 := hU4.heap (hW3.heap hp2 (by simp)) (fun hm => HPV.out bp (by simpa using hm) rfl)
    have hv4c : v4.cells = #[v4] ∧ v4.oneCell' = true := by obtain ⟨A4, c4, e4⟩ := OwnA.isSlice hM4; rw [e4]; exact ⟨rfl, rfl⟩
    have hM4' : OwnM w4 lo v4 (al ++ [⟨(n : Int) + 1, fr, to, .slice Q b.length q, b⟩]) := by
      have hbod : ∀ t ∈ al, ∀ k, t.v.ownBlock = some k → k ∉ (Value.slice A n c).ownBlock.toList := fun t ht k hk hm => hR3.ne_row (h3.all.bodies t ht) (by decide) k hk (by simpa using hm)
      have hO3 := HO2.out.upd0 hW3
      have hO4 := hO3.upd hU4 (fun k hk hm => hR3.ne_row hO3 (by decide) k hk (by simpa using hm))
      refine ⟨by rw [List.map_append]; exact hM4, fun t ht => ?_, List.pairwise_append.2 ⟨h3.all.apart, List.pairwise_singleton _ _, fun a ha z hz k hk => ?_⟩⟩
      · rcases List.mem_append.1 ht with ht | ht
        · exact (h3.all.bodies t ht).upd hU4 (hbod t ht)
        · rw [List.mem_singleton.1 ht]
          exact hO4.mono (fun k hk => by have := (HO2.out.lt k hk).1; have := HU1.out.size; have := HLO.out; omega)
      · rw [List.mem_singleton.1 hz]
        intro hk2
        have h1 := (HO2.out.lt k hk2).1
        have h4 := ((H.out.all.bodies a ha).lt k hk).2
        have := HU1.out.size
        omega
    have hT4l := HU2.out
    have hTK4 : OwnL w4 lo (.slice B n d) tk := OwnA.upd h3.tks hU4 (fun k hk hm => hR3.ne_row h3.tks.2 (by decide) k hk (by simpa using hm))
    refine ordP_step _ (by simp only [List.getElem?_toArray, List.getElem?_cons_succ, List.getElem?_cons_zero]; rfl) ?_ ordP_none
    go_wp2_with (fail)
    refine ord_more (by simp [Ord.first]) hT4 ?_
    refine ordP_step _ (by simp only [List.getElem?_toArray, List.getElem?_cons_succ, List.getElem?_cons_zero]; rfl) ?_ ordP_none
    go_wp2_with (fail)
    refine ord_more (by simp [Ord.first]) hT4 ?_
    refine ordP_step _ (by simp only [List.getElem?_toArray, List.getElem?_cons_succ, List.getElem?_cons_zero]; rfl) ?_ ordP_none
    have hp4s : (0 : Nat) < (playC (.slice A n c) (.slice B n d) here).size := by simp [playC]
    with_reducible refine arm_store_at (by with_unfolding_all exact rfl) (by with_unfolding_all exact rfl) hp4 hp4s hv4c.1 size_msgs hv4c.2 ?_
    intro w5 hp5 hX5 hz5
    change w5.heap[bp]? = some (.cells (playC v4 (.slice B n d) here) 58 (0, 0)) at hp5
    go_wp2_with (fail)
    refine ord_last (hT4.trans' hX5 (fun i hm _ => by rw [List.mem_singleton.1 hm]; simp)) ?_
    have hbpT : ∀ k, footM v4 (al ++ [⟨(n : Int) + 1, fr, to, .slice Q b.length q, b⟩]) k → k ∉ [bp] := fun k hk hm => by
      have e := List.mem_singleton.1 hm
      subst e
      rcases hk with hk | ⟨t, ht, hk⟩
      · obtain ⟨C, fr', h1⟩ := own_type hM4'.row.2 hk; exact heap_ne h1 hp4 (by decide) rfl
      · obtain ⟨C, fr', h1⟩ := own_type (hM4'.bodies t ht) hk; exact heap_ne h1 hp4 (by decide) rfl
    have HM5 := Lib.hid (hM4'.upd hX5 hbpT)
    have HT5 : Hid (OwnL w5 lo (.slice B n d) tk) := OwnA.upd hTK4 hX5 (fun k hk hm => by
      obtain ⟨C, fr', h1⟩ := own_type hTK4.2 hk
      rw [List.mem_singleton.1 hm] at h1
      exact heap_ne h1 hp4 (by decide) rfl)
    have HU5 : Hid (Upd (bp :: (Value.slice A n c).ownBlock.toList) w w5) := (HU2.out.of0.trans (hT4.trans' hX5 (fun i hm _ => by rw [List.mem_singleton.1 hm]; simp)))
    have cB : w5.cell? ⟨bp, 1, none⟩ = some (.slice B n d) := by rw [cell_of_row _ _ _ _ _ _ hp5]; rfl
    have HSZ5 : Hid (lo ≤ w5.heap.size) := by show lo ≤ w5.heap.size; have := HU5.out.size; have := HLO.out; omega
    clear hp4 hp4s hX5 hz5 hbpT hM4 hU4 hb4 hp2 k2 hM4' hTK4 hT4 hR3 hB3 ha3 hl3 h3 hv4c hT4l k3 hU3 hW3 hD2 hcs HTAIL hbm hg3
    go_wp2_with (with_reducible refine bsL (by with_unfolding_all exact rfl) ?_)
    intro g6 w6 hg6 k6 hU6
    have hT6 : OwnL w6 lo (.slice B n d) tk := OwnA.upd0 HT5.out hU6
    have hp6 := hU6.heap hp5 (by simp)
    have HM6 := Lib.hid (HM5.out.upd0 hU6)
    have HU6 := Lib.hid (HU5.out.trans0 hU6)
    have hB6 : lo ≤ w6.heap.size := by have := HSZ5.out; have := hU6.size; omega
    have hl6 : tk.length ≤ 1000000 := by rw [H.out.len, HN.out]; have := HS.out; omega
    clear hp5 hg6 hU6
    go_wp2_with (with_reducible refine appendL (by with_unfolding_all exact rfl) (by with_unfolding_all exact rfl) hT6 k6 hl6 hB6 ?_)
    intro v7 w7 hT7 hU7 hb7
    have hp7 := hU7.heap hp6 (fun hm => by
      obtain ⟨C, fr', h1⟩ := own_type hT6.2 (k := bp) (by simpa using hm)
      exact heap_ne h1 hp6 (by decide) rfl)
    have HM7 := Lib.hid (HM6.out.upd hU7 (fun k hk hm => by
      obtain ⟨C, fr', h1⟩ := own_type hT6.2 (k := k) (by simpa using hm)
      rcases hk with hk | ⟨t, ht, hk⟩
      · obtain ⟨C', fr'', h2⟩ := own_type HM6.out.row.2 hk; exact heap_ne h1 h2 (by decide) rfl
      · obtain ⟨C', fr'', h2⟩ := own_type (HM6.out.bodies t ht) hk; exact heap_ne h1 h2 (by decide) rfl))
    have HT7 := Lib.hid hT7
    have HU7 : Hid (Upd (bp :: ((Value.slice A n c).ownBlock.toList ++ (Value.slice B n d).ownBlock.toList)) w w7) := (HU6.out.mono (fun i hm _ => by simp at hm ⊢; rcases hm with h | h <;> simp [h])).trans' hU7 (fun i hm _ => by simp at hm ⊢; simp [hm])
    have hv7 : v7.cells = #[v7] ∧ v7.oneCell' = true := by obtain ⟨B7, d7, e7⟩ := OwnA.isSlice hT7; rw [e7]; exact ⟨rfl, rfl⟩
    clear hp6 hB6 hl6 k6 hT6 hT7 hU7 hb7
    go_wp2_with (with_reducible refine arm_store_at (by with_unfolding_all exact rfl) (by with_unfolding_all exact rfl) hp7 (by simp [playC]) hv7.1 size_bools hv7.2 ?_)
    intro w8 hp8 hX8 hz8
    change w8.heap[bp]? = some (.cells (playC v4 v7 here) 58 (0, 0)) at hp8
    have HX8 := Lib.hid hX8
    have cH : w8.cell? ⟨bp, 2, none⟩ = some (.int .i64 here) := by rw [cell_of_row _ _ _ _ _ _ hp8]; rfl
    clear hX8 hz8 hv7 cB
    go_wp2_with (with_reducible refine arm_store_at (by with_unfolding_all exact rfl) (by with_unfolding_all exact rfl) hp8 (by simp [playC]) (by with_unfolding_all exact rfl) size_int1 (by with_unfolding_all exact rfl) ?_)
    intro w9 hp9 hX9 hz9
    change w9.heap[bp]? = some (.cells (playC v4 v7 ((here : Int) + 1)) 58 (0, 0)) at hp9
    have HX9 := Lib.hid (HX8.out.trans hX9)
    have HP7 := Lib.hid hp7
    have HP9 := Lib.hid hp9
    clear hX9 hz9 hp8 cH hp7 hp9
    go_wp2_with (fail)
    go_ret
    refine ⟨v4, v7, .slice Q b.length q, rfl, ⟨HP9.out, HM7.out.upd HX9.out (fun k hk hm => by
        have e := List.mem_singleton.1 hm
        subst e
        rcases hk with hk | ⟨t, ht, hk⟩
        · obtain ⟨C, fr', h1⟩ := own_type HM7.out.row.2 hk; exact heap_ne h1 HP7.out (by decide) rfl
        · obtain ⟨C, fr', h1⟩ := own_type (HM7.out.bodies t ht) hk; exact heap_ne h1 HP7.out (by decide) rfl), OwnA.upd HT7.out HX9.out (fun k hk hm => by
        obtain ⟨C, fr', h1⟩ := own_type HT7.out.2 hk
        rw [List.mem_singleton.1 hm] at h1
        exact heap_ne h1 HP7.out (by decide) rfl), by rw [List.length_append, List.length_append, H.out.len]; rfl, H.out.count.push _ (by rw [HN.out]), H.out.low, fun a ha => ?_, by rw [List.length_append, HN.out]; have := HS.out; simp; omega⟩, HU7.out.trans' HX9.out (fun i hm _ => by rw [List.mem_singleton.1 hm]; simp)⟩
    rcases List.mem_append.1 ha with ha | ha
    · exact H.out.short a ha
    · rw [List.mem_singleton.1 ha]; exact HB.out
end Go.Proofs.Ytjeddokenpkpnaa
