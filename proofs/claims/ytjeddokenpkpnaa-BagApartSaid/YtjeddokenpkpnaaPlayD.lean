/-
  double (of what is not there), take, left of Play.
-/
import Derived.Test.YtjeddokenpkpnaaPlayC
namespace Go.Proofs.Ytjeddokenpkpnaa
open Go Go.RowKit Go.Proofs Go.Maps
theorem PB.thereNone {w : World} {lo bp bb bm : Nat} {va vt : Value} {al : List Ent} {tk : List Bool} {es : List Ent} {D : DataW Value} (h : PB w lo bp bb bm va vt al tk es D) {x : Int} (hx : findE es x = none) : (findE (kept al tk) x).isSome = false := by
  rw [((core_find h.alike x).1).1 hx]; rfl
theorem PB.thereSome {w : World} {lo bp bb bm : Nat} {va vt : Value} {al : List Ent} {tk : List Bool} {es : List Ent} {D : DataW Value} (h : PB w lo bp bb bm va vt al tk es D) {x : Int} {y : Ent} (hy : findE es x = some y) :
    (findE (kept al tk) x).isSome = true ∧ ∃ (j : Nat) (hj : j < al.length), x = (j : Int) + 1 ∧ al[j].core = y.core := by
  cases hq : findE (kept al tk) x with
  | none => rw [((core_find h.alike x).1).2 hq] at hy; cases hy
  | some k =>
    obtain ⟨h1, h2⟩ := findE_some hy
    have h3 := h.bag.ids y h1
    have hj : (x - 1).toNat < al.length := by omega
    have hx : x = (((x - 1).toNat : Nat) : Int) + 1 := by omega
    refine ⟨rfl, (x - 1).toNat, hj, hx, ?_⟩
    have h4 := (core_find h.alike x).2 y k hy hq
    have h5 := find_kept al tk _ hj (by rw [h.play.len]; exact hj) h.play.count.rise
    rw [h.play.count _ hj, ← hx, hq] at h5
    split at h5
    · cases h5
    · injection h5 with h5
      rw [← h5, h4]
set_option maxRecDepth 100000 in
set_option maxHeartbeats 6400000 in
theorem double_p_none (w : World) (lo bp bb bm : Nat) (va vt : Value) (al : List Ent) (tk : List Bool) (es : List Ent) (D : DataW Value) (h : PB w lo bp bb bm va vt al tk es D) (x : Int) (hx : wfI x) (hy : findE es x = none) :
    Calls Try.prog 24 #[.pointer (some ⟨bp, 0, none⟩), .pointer (some ⟨bb, 0, none⟩), .int .i64 x] w fun e w' => e = .returned (.bool true) ∧ PBs w' lo bp bb bm al.length ∧ Keeps lo w w' := by
  have hth := h.thereNone hy
  have H := Lib.hid h
  clear h
  go_enter Try.func24, Try.ntmps24
  go_wp2_with (fail)
  refine (double_none _ lo bb bm al.length es D H.out.bag x hx hy).mono ?_
  rintro e w2 ⟨rfl, hU2⟩
  have HU2 := Lib.hid hU2
  clear hU2
  go_wp2_with (fail)
  refine (there_ _ lo bp va vt es.length al tk (H.out.upd0 HU2.out).play x hx).mono ?_
  rintro e w3 ⟨rfl, hU3⟩
  rw [hth]
  have HU3 := Lib.hid (HU2.out.trans hU3)
  clear hU3 hth
  go_wp2_with (fail)
  go_ret
  exact ⟨rfl, (H.out.upd0 HU3.out).bs (Nat.le_refl _), Keeps.of HU3.out (by simp)⟩
set_option maxRecDepth 100000 in
set_option maxHeartbeats 6400000 in
theorem take_p_none (w : World) (lo bp bb bm : Nat) (va vt : Value) (al : List Ent) (tk : List Bool) (es : List Ent) (D : DataW Value) (h : PB w lo bp bb bm va vt al tk es D) (x : Int) (hx : wfI x) (hy : findE es x = none) :
    Calls Try.prog 23 #[.pointer (some ⟨bp, 0, none⟩), .pointer (some ⟨bb, 0, none⟩), .int .i64 x] w fun e w' => e = .returned (.bool true) ∧ PBs w' lo bp bb bm al.length ∧ Keeps lo w w' := by
  have hth := h.thereNone hy
  have H := Lib.hid h
  clear h
  go_enter Try.func23, Try.ntmps23
  go_wp2_with (fail)
  refine (take_none _ lo bb bm al.length es D H.out.bag x hx hy).mono ?_
  rintro e w2 ⟨rfl, hU2⟩
  have HU2 := Lib.hid hU2
  clear hU2
  go_wp2_with (with_reducible refine arm_alloc (zero_msg _) ?_)
  intro b7 w3 hb3 k3 hU3 hz3
  change w3.heap[b7]? = some (.cells (msgC 0 0 0 (.slice none 0 0)) 32 (0, 0)) at k3
  have HB7 : Hid (w2.heap.size = b7) := hb3
  have HU3 := Lib.hid hU3
  have hz := size_msg 0 0 0 (.slice none 0 0)
  clear hb3 hz3 hU3
  go_wp2_with (with_reducible refine arm_store (by with_unfolding_all exact rfl) (by with_unfolding_all exact rfl) k3 hz (by with_unfolding_all exact rfl) (one_msg _ _ _ rfl) ?_)
  intro w4 k4 hX4 hz4
  have HU4 : Hid (Upd [] w w4) := (HU2.out.trans HU3.out).trans' hX4 (fun k hm hl => by have := List.mem_singleton.1 hm; have := HB7.out; have := HU2.out.size; omega)
  clear k3 hX4 hz4
  go_wp2_with (fail)
  refine (there_ _ lo bp va vt es.length al tk (H.out.upd0 HU4.out).play x hx).mono ?_
  rintro e w5 ⟨rfl, hU5⟩
  rw [hth]
  have k5 := hU5.heap k4 (by simp)
  have HU5 := Lib.hid (HU4.out.trans hU5)
  have hb0 := built_msg0
  clear hU5 hth k4
  go_wp2_with (first
    | (with_reducible refine arm_load_g (by kernel_rfl) (by with_unfolding_all exact rfl) k5 Try.underlying32 (by with_unfolding_all exact rfl) hz ?_)
    | (with_reducible refine arm_build0_g (by kernel_rfl) hb0 ?_))
  refine (sameM_ _ ⟨0, 0, 0, .slice none 0 0, []⟩ ⟨0, 0, 0, .slice none 0 0, []⟩ (RdB.nil _) (RdB.nil _) (by simp) (by simp)).mono ?_
  rintro e w6 ⟨rfl, hU6⟩
  have hq : eqCore ⟨0, 0, 0, .slice none 0 0, []⟩ ⟨0, 0, 0, .slice none 0 0, []⟩ = true := (eqCore_iff _ _).2 rfl
  rw [hq]
  have HU6 := Lib.hid (HU5.out.trans hU6)
  clear hU6 hq k5 hb0 hz
  go_wp2_with (fail)
  go_ret
  exact ⟨rfl, (H.out.upd0 HU6.out).bs (Nat.le_refl _), Keeps.of HU6.out (by simp)⟩
theorem PlayAt.took {w w' : World} {lo bp : Nat} {va vt : Value} {here here' : Nat} {al : List Ent} {tk tk' : List Bool} {S : List Nat} (h : PlayAt w lo bp va vt here al tk) (u : Upd S w w') (hc : w'.heap[bp]? = some (.cells (playC va vt here') 58 (0, 0))) (ht : OwnL w' lo vt tk') (hl : tk'.length = tk.length)
    (hS : ∀ k, footM va al k → k ∉ S) : PlayAt w' lo bp va vt here' al tk' :=
  ⟨hc, h.all.upd u hS, ht, by rw [hl]; exact h.len, h.count, h.low, h.short, h.small⟩
set_option maxRecDepth 100000 in
set_option maxHeartbeats 6400000 in
theorem take_p_ok (w : World) (lo bp bb bm : Nat) (va vt : Value) (al : List Ent) (tk : List Bool) (es : List Ent) (D : DataW Value) (h : PB w lo bp bb bm va vt al tk es D) (x : Int) (hx : wfI x) (y : Ent) (hy : findE es x = some y) :
    Calls Try.prog 23 #[.pointer (some ⟨bp, 0, none⟩), .pointer (some ⟨bb, 0, none⟩), .int .i64 x] w fun e w' => e = .returned (.bool true) ∧ PBs w' lo bp bb bm al.length ∧ Keeps lo w w' := by
  obtain ⟨hth, j, hjl, hxj, hjy⟩ := h.thereSome hy
  subst hxj
  have HJY := Lib.hid hjy
  have HJL := Lib.hid hjl
  clear hjy
  have hym : y ∈ es := (findE_some hy).1
  have hvo : y.v.oneCell' = true := by obtain ⟨a, q, e, _⟩ := (h.bag.rows y hym).rd.isSlice; rw [e]; rfl
  have hsy := size_msg y.id y.fr y.to y.v
  have hoy := one_msg y.id y.fr y.to hvo
  have HYB : Hid (y.b.length ≤ 1024) := h.bag.short y hym
  have hji : (j : Int) ≤ 9300 := by have := h.play.small; omega
  have HLEN : Hid ((dropE es ((j : Int) + 1)).length + 1 = es.length) := length_drop_of es _ y h.bag.rise hy
  have hei : (es.length : Int) ≤ 4096 := by have := h.bag.room; omega
  have hep : (0 : Int) < (es.length : Int) := by have := List.length_pos_of_mem hym; omega
  have H := Lib.hid h
  clear h hvo hym
  go_enter Try.func23, Try.ntmps23
  go_wp2_with (fail)
  refine (take_ _ lo bb bm al.length es D H.out.bag _ hx y hy).mono ?_
  rintro e w2 ⟨D2, rfl, hB2, hO2, hU2⟩
  unfold Ent.cells
  have HB2 := Lib.hid hB2
  have HO2 := Lib.hid hO2
  have HP2 := Lib.hid (H.out.play.bag H.out.bag hU2)
  have HU2 := Lib.hid hU2
  clear hB2 hO2 hU2
  go_wp2_with (with_reducible refine arm_alloc (zero_msg _) ?_)
  intro b7 w3 hb3 k3 hU3 hz3
  change w3.heap[b7]? = some (.cells (msgC 0 0 0 (.slice none 0 0)) 32 (0, 0)) at k3
  have HB7 : Hid (w2.heap.size = b7) := hb3
  have HU3 := Lib.hid hU3
  clear hb3 hz3 hU3
  go_wp2_with (with_reducible refine arm_store (by with_unfolding_all exact rfl) (by with_unfolding_all exact rfl) k3 hsy (by with_unfolding_all exact rfl) hoy ?_)
  intro w4 k4 hX4 hz4
  have HU4 : Hid (Upd [] w2 w4) := HU3.out.trans' hX4 (fun k hm hl => by have := List.mem_singleton.1 hm; have := HB7.out; omega)
  clear k3 hX4 hz4
  go_wp2_with (fail)
  refine (there_ _ lo bp va vt es.length al tk (HP2.out.upd0 HU4.out) _ hx).mono ?_
  rintro e w5 ⟨rfl, hU5⟩
  rw [hth]
  have k5 := hU5.heap k4 (by simp)
  have HU5 := Lib.hid (HU4.out.trans hU5)
  have HP5 := Lib.hid (HP2.out.upd0 HU5.out)
  have HB5 := Lib.hid (HB2.out.upd0 HU5.out)
  have HO5 := Lib.hid (HO2.out.upd0 HU5.out)
  obtain ⟨n, hn⟩ : ∃ n, al.length = n := ⟨_, rfl⟩
  have hjt : j < tk.length := by rw [HP5.out.len]; exact hjl
  obtain ⟨g, cap, cur, eT, rT⟩ := OwnA.at HP5.out.tks (by rw [List.length_map]; omega)
  rw [List.length_map, HP5.out.len, hn] at eT
  have HVT : Hid (vt = .slice (some ⟨g, 0, none⟩) n cap) := eT
  have HT5 := Lib.hid HP5.out.tks
  have HP5c := Lib.hid HP5.out.cells
  rw [eT] at HT5 HP5c
  have c1 : w5.cell? ⟨bp, 1, none⟩ = some (.slice (some ⟨g, 0, none⟩) n cap) := by rw [cell_of_row _ _ _ _ _ _ HP5c.out]; rfl
  obtain ⟨hfr, hT6⟩ := OwnL.set HT5.out j hjt true
  obtain ⟨w6, hw6⟩ : ∃ W, w5.setCell ⟨g, j, none⟩ (.bool true) = W := ⟨_, rfl⟩
  have HX6 : Hid (Upd [g] w5 w6) := by rw [← hw6]; exact (Upd.refl _ _).setCell _ _ (fun _ => by simp)
  rw [hw6] at hT6
  have HT6 := Lib.hid hT6
  have hgT : ∃ C fr', w5.heap[g]? = some (.cells C 4 fr') := own_type HT5.out.2 rfl
  have HG : Hid (NoBag w5 g ∧ lo ≤ g) := ⟨by obtain ⟨C, fr', h1⟩ := hgT; exact ⟨_, _, _, h1, by decide, by decide⟩, (OwnA.lt HT5.out g rfl).1⟩
  have HGS : Hid (Still w5 g) := by obtain ⟨C, fr', h1⟩ := hgT; exact Still.of h1 (by decide)
  have hc6 := HX6.out.heap HP5c.out (fun hm => by obtain ⟨C, fr', h1⟩ := hgT; rw [← List.mem_singleton.1 hm] at h1; exact heap_ne h1 HP5c.out (by decide) rfl)
  have k6 := HX6.out.heap k5 (fun hm => by obtain ⟨C, fr', h1⟩ := hgT; rw [← List.mem_singleton.1 hm] at h1; exact heap_ne h1 k5 (by decide) rfl)
  have HNF : Hid (∀ k, footM va al k → k ∉ [g]) := fun k hk hm => by
    have e := List.mem_singleton.1 hm
    subst e
    obtain ⟨C, fr', h1⟩ := hgT
    rcases hk with hk | ⟨t, ht, hk⟩
    · obtain ⟨C', fr'', h2⟩ := own_type HP5.out.all.row.2 hk; exact heap_ne h1 h2 (by decide) rfl
    · obtain ⟨C', fr'', h2⟩ := own_type (HP5.out.all.bodies t ht) hk; exact heap_ne h1 h2 (by decide) rfl
  have HO6 : Hid (OwnB w6 lo y.v y.b) := HO5.out.upd HX6.out (fun k hk hm => by obtain ⟨C, fr', h1⟩ := hgT; rw [← List.mem_singleton.1 hm] at h1; exact cells_ne HO5.out h1 (by decide) hk)
  have hjb : (j : Int) < (n : Int) := by omega
  have HWX := Lib.hid hw6
  have HNN := Lib.hid hn
  have HFR := Lib.hid hfr
  have HJT := Lib.hid hjt
  have HUX := Lib.hid hU5
  have ctk : w5.cell? ⟨g, j, none⟩ = some (.bool tk[j]) := OwnL.cell HT5.out j hjt
  obtain ⟨tb, htb⟩ : ∃ b, tk[j] = b := ⟨_, rfl⟩
  rw [htb] at ctk
  have cH : w6.cell? ⟨bp, 2, none⟩ = some (.int .i64 es.length) := by rw [cell_of_row _ _ _ _ _ _ hc6]; rfl
  clear hU5 hth k4 hgT hT6 rT eT htb hn hy hx k5
  go_upto_region 5 with (fail)
  go_wp2_with (with_reducible refine arm_store_at (by with_unfolding_all exact rfl) (by with_unfolding_all exact rfl) hc6 (by simp [playC]) (by with_unfolding_all exact rfl) size_int1 (by with_unfolding_all exact rfl) ?_)
  intro w7 hc7 hX7 hz7
  change w7.heap[bp]? = some (.cells (playC va (.slice (some ⟨g, 0, none⟩) n cap) ((es.length : Int) - 1)) 58 (0, 0)) at hc7
  have hb7p : b7 ≠ bp := heap_ne k6 hc6 (by decide)
  have k7 := hX7.heap k6 (fun hm => hb7p (List.mem_singleton.1 hm))
  have HX7 := Lib.hid hX7
  have HC6 := Lib.hid hc6
  have HXX : Hid (Upd [g, bp] w5 w7) := (HX6.out.mono (T := [g, bp]) (fun i hm _ => by simp [List.mem_singleton.1 hm])).trans' hX7 (fun i hm _ => by simp [List.mem_singleton.1 hm])
  have HP7 : Hid (PlayAt w7 lo bp va vt (dropE es ((j : Int) + 1)).length al (tk.set j true)) := by
    have e1 : ((es.length : Int) - 1) = ((dropE es ((j : Int) + 1)).length : Int) := by have := HLEN.out; omega
    rw [e1] at hc7
    rw [← HVT.out] at hc7
    have ht6 := HT6.out
    rw [← HVT.out] at ht6
    refine HP5.out.took HXX.out hc7 (OwnA.upd ht6 hX7 (fun k hk hm => ?_)) (by rw [List.length_set]) (fun k hk hm => ?_)
    · obtain ⟨C, fr', h1⟩ := own_type ht6.2 hk
      rw [List.mem_singleton.1 hm] at h1
      exact heap_ne h1 HC6.out (by decide) rfl
    · simp only [List.mem_cons, List.not_mem_nil, or_false] at hm
      rcases hm with rfl | rfl
      · exact HNF.out k hk (by simp)
      · rcases hk with hk | ⟨t, ht, hk⟩
        · obtain ⟨C', fr'', h2⟩ := own_type HP5.out.all.row.2 hk; exact heap_ne h2 HP5c.out (by decide) rfl
        · obtain ⟨C', fr'', h2⟩ := own_type (HP5.out.all.bodies t ht) hk; exact heap_ne h2 HP5c.out (by decide) rfl
  have HB7 : Hid (BagAt w7 lo bb bm al.length (dropE es ((j : Int) + 1)) D2) := HB5.out.off HXX.out (fun k hk => by
    simp only [List.mem_cons, List.not_mem_nil, or_false] at hk
    rcases hk with rfl | rfl
    · exact HG.out.1
    · exact ⟨_, _, _, HP5c.out, by decide, by decide⟩)
  have HO7 : Hid (OwnB w7 lo y.v y.b) := HO6.out.upd hX7 (fun k hk hm => cells_ne HO6.out HC6.out (by decide) (by rw [hk, List.mem_singleton.1 hm]))
  have HK7 : Hid (Keeps lo w w7) := ((H.out.bag.keeps HU2.out).trans (Keeps.of HU5.out (by simp))).trans (Keeps.of HXX.out (fun k hk => by
    simp only [List.mem_cons, List.not_mem_nil, or_false] at hk
    rcases hk with rfl | rfl
    · exact ⟨HG.out.2, HGS.out⟩
    · exact ⟨H.out.play.low, Still.of HP5c.out (by decide)⟩))
  have HPB7 : Hid (PB w7 lo bp bb bm va vt al (tk.set j true) (dropE es ((j : Int) + 1)) D2) := ⟨HP7.out, HB7.out, by
    rw [kept_set al tk j HJL.out H.out.play.len H.out.play.count.rise, H.out.play.count j HJL.out]
    exact drop_core H.out.alike _⟩
  obtain ⟨z, hz⟩ : ∃ z, al[j] = z := ⟨_, rfl⟩
  have hjy : z.core = y.core := by rw [← hz]; exact HJY.out
  have HZY := Lib.hid hjy
  have hzm : z ∈ al := by rw [← hz]; exact List.getElem_mem hjl
  have HZ : Hid (RdB w7 z.v z.b ∧ z.b.length ≤ 1024) := ⟨(HP7.out.all.bodies z hzm).rd, HP7.out.short z hzm⟩
  obtain ⟨gl, cl, curl, eL, rL⟩ := OwnA.at HP7.out.all.row (by rw [List.length_map]; omega)
  rw [List.length_map, HNN.out] at eL
  have hel : w7.rangeAt gl (0 + j * 4) z.cells.toList := by
    have h1 := HP7.out.all.row
    rw [eL] at h1
    have h2 := OwnA.elem h1 j (by rw [List.length_map]; exact hjl)
    simp only [List.getElem_map] at h2
    rw [Nat.zero_add, ← hz]; exact h2
  have HCA : Hid (∀ W, Upd [] w7 W → W.cell? ⟨bp, 0, none⟩ = some (.slice (some ⟨gl, 0, none⟩) n cl)) := fun W hW => by rw [cell_of_row _ _ _ _ _ _ (hW.heap HP7.out.cells (by simp)), ← eL]; rfl
  have HQ7 : Hid (∀ W, Upd [] w7 W → ∃ t fr, W.heap[b7]? = some (.cells (msgC y.id y.fr y.to y.v) t fr)) := fun W hW => ⟨_, _, hW.heap k7 (by simp)⟩
  have HQL : Hid (∀ W, Upd [] w7 W → W.rangeAt gl (0 + j * 4) z.cells.toList) := fun W hW => rangeAt_upd hel hW (by simp)
  have HSM : Hid (∀ W, Upd [] w7 W → Calls Try.prog 12 #[.agg (msgC y.id y.fr y.to y.v), .agg z.cells.toList.toArray] W fun e w' => e = .returned (.bool true) ∧ Upd [] W w') := fun W hW => by
    have := sameM_ W y z (HO7.out.rd.upd0 hW) (HZ.out.1.upd0 hW) (by have := HYB.out; omega) (by have := HZ.out.2; omega)
    rw [(eqCore_iff y z).2 HZY.out.symm] at this
    exact this
  have hszz := size_msgL z
  have hjn : j < n := by omega
  obtain ⟨kz, hkz⟩ : ∃ q, 0 + j * 4 = q := ⟨_, rfl⟩
  rw [hkz] at HQL
  have HKZ := Lib.hid hkz
  clear hel hkz rL eL hzm hjy hz k6 hc6 hX7 hz7 hc7 k7 c1 ctk hfr cH hb7p hjl HJY
  go_upto_region 6 with (fail)
  go_simp
  refine wp_region_quiet_all (Upd [] w7) (by kernel_rfl) (by kernel_rfl) (Upd.refl _ _).drew ?_
  repeat (first
    | go_big_quiet_skip
    | (refine wpQuiet_valK rfl (quiet_of_yields (yields_cell (p := ⟨bp, 0, none⟩) rfl HCA.out Try.underlying33 rfl)) (fun K hK => ?_); go_simp; refine hK _ ?_; clear hK K)
    | (refine wpQuiet_valK rfl (quiet_load_row 32 _ rfl b7 rfl _ HQ7.out Try.underlying32 rfl hsy) (fun K hK => ?_); go_simp; refine hK _ ?_; clear hK K)
    | (refine wpQuiet_valK rfl (quiet_load_mid 32 _ rfl gl kz rfl _ HQL.out Try.underlying32 rfl hszz) (fun K hK => ?_); go_simp; refine hK _ ?_; clear hK K)
    | (refine wpQuiet_valK rfl (quiet_of_yields (yields_index Try.underlying33 elem_msgs size_msg4 (g := gl) rfl rfl rfl hjn HKZ.out)) (fun K hK => ?_); go_simp; refine hK _ ?_; clear hK K)
    | go_big_quiet_step ((intro hw2; first
        | rfl
        | ((with_reducible refine (HSM.out _ hw2).mono ?_); exact fun e w' h => ⟨h.1, hw2.trans h.2⟩))))
  refine wpQuiet_nil ?_
  intro w8 hU8
  have HU8 := Lib.hid hU8
  clear hU8 HQ7 HQL HSM HCA hszz hsy hoy
  go_wp2_with (fail)
  go_ret
  exact ⟨rfl, (HPB7.out.upd0 HU8.out).bs (Nat.le_refl _), HK7.out.trans (Keeps.of HU8.out (by simp))⟩
end Go.Proofs.Ytjeddokenpkpnaa
