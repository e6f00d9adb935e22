/-
  BagExact: the law.
-/
import Derived.Test.YtjeddokenpkpnaaExD
import Derived.Test.YtjeddokenpkpnaaHoist2
namespace Go.Proofs.Ytjeddokenpkpnaa
open Go Go.RowKit Go.Proofs Go.Maps
theorem yields_mid {P : Program} {S : World → Prop} {a : Act} {dst : Option Tmp} {ty type : TypeId} {pos : String} {after : Array Edge} {gd : Option (Nat × Bool)} {x : Operand} {g k : Nat} {cs : List Value} {d : TypeDesc}
    (hx : a.eval x = .pointer (some ⟨g, k, none⟩)) (hr : ∀ w, S w → w.rangeAt g k cs) (hu : P.underlying ty = some d) (hd : d.isRow = true) (hi : (P.info? ty).map (·.size) = some cs.length) :
    ∀ w, S w → (execOp a.eval ⟨dst, .load ty x, type, pos, after, gd⟩).run P w = .ok (.value (.agg cs.toArray)) w := by
  intro w hS
  unfold execOp
  simp only [hx, Instr.loadAt, Instr.sureAddr, Sem.run_bind, Sem.run_pure, Result.andThen_ok, run_loadVar_mid w g k ty cs d (hr w hS) hu hd hi]
/-- what a step leaves -/
def StepFin (w w0 : World) (lo bb bm bs last n : Nat) (e : Ending) (w' : World) : Prop :=
  ∃ v' last', e = .returned (.tuple #[.agg (refC v' (last' : Nat)), .bool true]) ∧ ExS w' w0 lo bb bm bs v' last' ∧ last' ≤ last + n ∧ ∀ (k : Nat) (C : Array Value) (fr : Nat × Nat), w.heap[k]? = some (.cells C 44 fr) → w'.heap[k]? = some (.cells C 44 fr)
theorem StepAns.fin {w w0 : World} {lo bb bm bs last n : Nat} {v : Value} {es ks : List Ent} {D : DataW Value} {m0 q0 : Ent} {sb : Bool} {e : Ending} {w' : World} (H : ExAt w w0 lo bb bm v last es ks D) (HS : ShelfAt w lo bs m0 q0 sb es)
    (h : StepAns w w0 lo bb bm bs (bb :: bm :: bs :: m0.v.ownBlock.toList) last n e w') : StepFin w w0 lo bb bm bs last n e w' := by
  obtain ⟨v', last', h1, h2, h3, h4⟩ := h
  refine ⟨v', last', h1, h2, h3, fun k C fr hk => h4.heap hk (fun hm => ?_)⟩
  simp only [List.mem_cons, Option.mem_toList] at hm
  rcases hm with rfl | rfl | rfl | hm
  · exact heap_ne hk H.bag.cells (by decide) rfl
  · exact map_ne H.bag.map hk rfl
  · exact heap_ne hk HS.cells (by decide) rfl
  · exact cells_ne HS.own hk (by decide) hm
theorem step_ (w w0 : World) (lo bb bm bs : Nat) (v : Value) (last : Nat) (h : ExS w w0 lo bb bm bs v last) (hla : last ≤ 90000) (s : Stp) (hv : RdB w0 s.m.v s.m.b) (hb3 : s.m.b.length ≤ 3000) (hx : wfI s.x) (hn9 : s.n ≤ 9000) :
    Calls Try.prog 16 #[.pointer (some ⟨bb, 0, none⟩), .agg (refC v last), .agg s.cells.toArray, .pointer (some ⟨bs, 0, none⟩)] w (StepFin w w0 lo bb bm bs last (1 + s.n.toNat)) := by
  obtain ⟨es, ks, D, m0, q0, sb, H, HS⟩ := h
  by_cases k1 : s.kind = 1
  · exact (step_put w w0 lo bb bm bs v last es ks D m0 q0 sb H HS hla s hv hb3 hx hn9 k1).mono fun e w' h => h.fin H HS
  by_cases k2 : s.kind = 2
  · cases hf : findE es s.x with
    | none => exact (step_get_none w w0 lo bb bm bs v last es ks D m0 q0 sb H HS hla s hv hb3 hx hn9 k2 hf).mono fun e w' h => h.fin H HS
    | some y =>
      cases hk : findE ks s.x with
      | none => exact absurd ((core_find H.alike s.x).1.2 hk) (by rw [hf]; simp)
      | some k => exact (step_get_some w w0 lo bb bm bs v last es ks D m0 q0 sb H HS hla s hv hb3 hx hn9 k2 y hf k hk).mono fun e w' h => h.fin H HS
  by_cases k3 : s.kind = 3
  · cases hf : findE es s.x with
    | none => exact (step_take_none w w0 lo bb bm bs v last es ks D m0 q0 sb H HS hla s hv hb3 hx hn9 k3 hf).mono fun e w' h => h.fin H HS
    | some y =>
      cases hk : findE ks s.x with
      | none => exact absurd ((core_find H.alike s.x).1.2 hk) (by rw [hf]; simp)
      | some k => exact (step_take_ok w w0 lo bb bm bs v last es ks D m0 q0 sb H HS hla s hv hb3 hx hn9 k3 y hf k hk).mono fun e w' h => h.fin H HS
  by_cases k4 : s.kind = 4
  · exact (step_double w w0 lo bb bm bs v last es ks D m0 q0 sb H HS hla s hv hb3 hx hn9 k4).mono fun e w' h => h.fin H HS
  by_cases k5 : s.kind = 5
  · exact (step_list w w0 lo bb bm bs v last es ks D m0 q0 sb H HS hla s hv hb3 hx hn9 k5).mono fun e w' h => h.fin H HS
  · exact (step_other w w0 lo bb bm bs v last es ks D m0 q0 sb H HS hla s hv hb3 hx hn9 ⟨k1, k2, k3, k4, k5⟩).mono fun e w' h => h.fin H HS
set_option maxRecDepth 100000 in
set_option maxHeartbeats 6400000 in
theorem law_exact (w : World) (v : Value) (ss : List Stp) (h : RdS w v ss) (hx : ∀ s ∈ ss, wfI s.x) (hn : ss.length ≤ maxLen) (hb : ∀ s ∈ ss, s.m.b.length ≤ maxLen) :
    Calls Try.prog 4 #[v] w fun e w' => e = .returned (.bool true) ∧ Upd [] w w' := by
  have HB := Lib.hid hb
  have HX := Lib.hid hx
  have HM := Lib.hid hn
  have H0 := Lib.hid h
  obtain ⟨A, c, eA, _⟩ := h.row.isSlice
  rw [List.length_map] at eA
  obtain ⟨N, hN⟩ : ∃ n, ss.length = n := ⟨_, rfl⟩
  rw [hN] at eA
  subst eA
  have HN := Lib.hid hN
  clear h hb hx hn hN
  go_enter Try.func4, Try.ntmps4
  go_wp2_with (fail)
  refine (fits_ _ _ ss H0.out HM.out HB.out).mono ?_
  rintro e w0 ⟨b, rfl, hfit, hU0⟩
  have HF := Lib.hid hfit
  have HU0 := Lib.hid hU0
  clear hfit hU0
  cases b with
  | false =>
    go_wp2_with (fail)
    go_ret
    exact ⟨rfl, HU0.out⟩
  | true =>
    have HFT := Lib.hid (HF.out rfl)
    have H := Lib.hid (H0.out.upd0 HU0.out)
    clear HF
    go_wp2_with (fail)
    refine (new_ _).mono ?_
    rintro e w1 ⟨bb, bm, D0, rfl, hB1, hU1⟩
    have HB1 := Lib.hid hB1
    have HU1 := Lib.hid hU1
    clear hB1 hU1
    go_wp2_with (fail)
    refine (rnew_ _).mono ?_
    rintro e w2 ⟨rfl, hU2⟩
    have HB2 := Lib.hid (HB1.out.upd0 hU2)
    have HU2 := Lib.hid (HU1.out.trans hU2)
    have hs0 := size_ref (.slice none 0 0) 0
    have ho0 := one_ref (v := .slice none 0 0) 0 rfl
    have hbs := built_shelf
    clear hU2
    go_wp2_with (with_reducible refine arm_alloc (zero_ref _) ?_)
    intro b4 w3 hb4 k4 hU3 hz3
    change w3.heap[b4]? = some (.cells (refC (.slice none 0 0) 0) 44 (0, 0)) at k4
    have HB4 : Hid (w0.heap.size ≤ b4) := by show w0.heap.size ≤ b4; have := HU2.out.size; omega
    have HB3 := Lib.hid (HB2.out.upd0 hU3)
    have HU3 := Lib.hid (HU2.out.trans hU3)
    clear hb4 hU3 hz3
    go_wp2_with (with_reducible refine arm_store (by with_unfolding_all exact rfl) (by with_unfolding_all exact rfl) k4 hs0 (by with_unfolding_all exact rfl) ho0 ?_)
    intro w4 k4' hX4 hz4
    have HX : Hid (ExAt w4 w0 w0.heap.size bb bm (.slice none 0 0) 0 [] [] D0) :=
      ExAt.local (h := ⟨HB3.out, rfl, OwnA.nil _ _ _ _, (fun k hk => by cases hk), HU3.out, Nat.le_refl _⟩) hX4 k4 (by decide) (by decide) (by decide) HB4.out
    have HXX : Hid (∀ s ∈ ss, wfI s.x) := by assumption
    have HK4 := Lib.hid k4'
    clear hX4 hz4 k4 k4' hs0 ho0
    go_wp2_with (first
      | (with_reducible refine arm_build0 hbs ?_)
      | (with_reducible refine arm_box (by with_unfolding_all exact rfl) ?_))
    intro bs w5 hb5 k5 hU5 hz5
    change w5.heap[bs]? = some (.cells (shL ⟨0, 0, 0, .slice none 0 0, []⟩ ⟨0, 0, 0, .slice none 0 0, []⟩ false).toArray 48 (0, 0)) at k5
    have HES : Hid (ExS w5 w0 w0.heap.size bb bm bs (.slice none 0 0) 0) := ⟨[], [], D0, _, _, false, HX.out.upd0 hU5, ShelfAt.start k5 (by have := HX.out.since.size; omega)⟩
    have HK5 := Lib.hid (hU5.heap HK4.out (by simp))
    have HNI : Hid (N ≤ 200) := by show N ≤ 200; rw [← HN.out]; exact HFT.out.len
    have hni : (N : Int) ≤ 200 := by have := HNI.out; omega
    clear hb5 k5 hU5 hz5 hbs
    go_wp2_with (fail)
    go_loopw [6] (fun iv wr => ∃ (i : Nat) (v' : Value) (last' : Nat), iv = .int .i64 i ∧ i ≤ N ∧ ExS wr w0 w0.heap.size bb bm bs v' last' ∧ wr.heap[b4]? = some (.cells (refC v' last') 44 (0, 0)) ∧ last' ≤ i + times (ss.take i)) (fun iv _ => N - (intOf iv).toNat)
    case atStart => exact ⟨0, _, 0, rfl, Nat.zero_le _, HES.out, HK5.out, Nat.zero_le _⟩
    case round =>
      obtain ⟨i, v1, last1, rfl, hi, hE, hk4, hl1⟩ := hrel
      have HE := Lib.hid hE
      have HK4 := Lib.hid hk4
      have HL1 : Hid (last1 ≤ i + times (ss.take i)) := hl1
      have HI : Hid (i ≤ N) := hi
      have hsz := size_ref v1 last1
      clear hE hl1 hi
      by_cases hlt : i < N
      · have hli : (i : Int) < (N : Int) := by omega
        have hil : i < ss.length := by rw [HN.out]; exact hlt
        obtain ⟨s, hs⟩ : ∃ s, ss[i] = s := ⟨_, rfl⟩
        have HSM : Hid (s ∈ ss) := by show s ∈ ss; rw [← hs]; exact List.getElem_mem hil
        obtain ⟨g, p, c', e, _⟩ := RdA.at H.out.row (by rw [List.length_map, HN.out]; omega)
        injection e with e e1 e2
        clear e1 e2
        subst e
        have hel := RdA.elem H.out.row i (by rw [List.length_map]; exact hil)
        simp only [List.getElem_map, hs] at hel
        obtain ⟨k, hk⟩ : ∃ q, p + i * 7 = q := ⟨_, rfl⟩
        rw [hk] at hel
        have HKK := Lib.hid hk
        have HEL := Lib.hid hel
        have HTM : Hid (times (ss.take (i + 1)) = times (ss.take i) + s.n.toNat) := by show times (ss.take (i + 1)) = times (ss.take i) + s.n.toNat; rw [times_snoc ss i hil, hs]
        have HTL : Hid (times (ss.take i) ≤ 9000) := Nat.le_trans (times_le ss i) HFT.out.all
        have HSI : Hid (Upd [] w0 wr) := by obtain ⟨_, _, _, _, _, _, h1, _⟩ := HE.out; exact h1.since
        have hz7 : (Try.prog.info? 52).map (·.size) = some s.cells.length := size_step7
        have HB4' : Hid (b4 < wr.heap.size) := lt_of_heap hk4
        have HSTEP : Hid (∀ W, ExS W w0 w0.heap.size bb bm bs v1 last1 → Calls Try.prog 16 #[.pointer (some ⟨bb, 0, none⟩), .agg (refC v1 last1), .agg s.cells.toArray, .pointer (some ⟨bs, 0, none⟩)] W (StepFin W w0 w0.heap.size bb bm bs last1 (1 + s.n.toNat))) := fun W hW =>
          step_ W w0 w0.heap.size bb bm bs v1 last1 hW (by have := HL1.out; have := HTL.out; have := HNI.out; omega) s (H.out.bodies s HSM.out) (HFT.out.body s HSM.out) (HXX.out s HSM.out) (HFT.out.some s HSM.out)
        clear hel hs hil hk hk4
        obtain ⟨SC, hSC⟩ : ∃ S : World → Prop, S = fun W => W.heap[b4]? = some (.cells (refC v1 last1) 44 (0, 0)) ∧ Upd [] w0 W := ⟨_, rfl⟩
        have HSC : Hid (∀ W, SC W ↔ W.heap[b4]? = some (.cells (refC v1 last1) 44 (0, 0)) ∧ Upd [] w0 W) := fun W => by rw [hSC]
        have HQ4 : Hid (∀ W, SC W → ∃ t fr', W.heap[b4]? = some (.cells (refC v1 last1) t fr')) := fun W hW => ⟨_, _, ((HSC.out W).1 hW).1⟩
        have HQS : Hid (∀ W, SC W → W.rangeAt g k s.cells) := fun W hW => rangeAt_upd HEL.out ((HSC.out W).1 hW).2 (by simp)
        have HS0 : Hid (SC wr.drew) := (HSC.out _).2 ⟨((Upd.refl [] wr).drew).heap HK4.out (by simp), HSI.out.trans ((Upd.refl [] wr).drew)⟩
        clear hSC
        go_upto_region 11 with (fail)
        go_simp
        refine wp_region_ordT (.take 0 (.take 1 (.take 2 (.take 3 (.take 4 (.take 5 (.take 6 (.step 7 (.take 8 (.take 9 (.take 10 (.step 11 (.step 12 (.step 13 .none .none) .none) .none)))) (.step 11 (.step 7 (.take 8 (.take 9 (.take 10 (.step 12 (.step 13 .none .none) .none)))) .none) .none))))))))) SC (by kernel_rfl) (by kernel_rfl) HS0.out ?_
        refine ordQ_take _ (.pointer (some ⟨bb, 0, none⟩)) rfl (by kernel_rfl) (yields_move (by kernel_rfl)) ?_
        refine ordQ_take _ (.agg (refC v1 last1)) rfl (by kernel_rfl) (yields_row (g := b4) (by kernel_rfl) HQ4.out Try.underlying44 rfl hsz) ?_
        refine ordQ_take _ (.slice (some ⟨g, p, none⟩) N c) rfl (by kernel_rfl) (yields_move (by kernel_rfl)) ?_
        refine ordQ_take _ (.int .i64 i) rfl (by kernel_rfl) (yields_move (by kernel_rfl)) ?_
        refine ordQ_take _ (.pointer (some ⟨g, k, none⟩)) rfl (by kernel_rfl) (yields_index Try.underlying41 elem_steps size_step7 (g := g) (i := i) (c := c) (by kernel_rfl) (by kernel_rfl) rfl hlt HKK.out) ?_
        refine ordQ_take _ (.agg s.cells.toArray) rfl (by kernel_rfl) (yields_mid (g := g) (k := k) (by kernel_rfl) HQS.out Try.underlying52 rfl hz7) ?_
        refine ordQ_take _ (.pointer (some ⟨bs, 0, none⟩)) rfl (by kernel_rfl) (yields_move (by kernel_rfl)) ?_
        have HED : Hid (ExS wr.drew w0 w0.heap.size bb bm bs v1 last1) := HE.out.upd0 ((Upd.refl [] wr).drew)
        refine ordQ_step _ (by simp only [List.getElem?_toArray, List.getElem?_cons_succ, List.getElem?_cons_zero]; rfl) ?_ ?_
        · go_simp
          go_wp2_with (fail)
          refine (HSTEP.out _ HED.out).mono ?_
          rintro e w6 ⟨v2, last2, rfl, hE2, hl2, hfr⟩
          have HL2 : Hid (last2 ≤ last1 + (1 + s.n.toNat)) := hl2
          have HE := Lib.hid hE2
          have hs2 := size_ref v2 last2
          have ho2 := one_ref last2 (by obtain ⟨_, _, _, _, _, _, h1, _⟩ := hE2; exact h1.vo)
          have HSI6 : Hid (Upd [] w0 w6) := by obtain ⟨_, _, _, _, _, _, h1, _⟩ := hE2; exact h1.since
          have HLO6 : Hid (w0.heap.size ≤ w6.heap.size) := HSI6.out.size
          have HK4 := Lib.hid (hfr _ _ _ (((Upd.refl [] wr).drew).heap HK4.out (by simp)))
          have HSA : Hid (SC w6) := (HSC.out _).2 ⟨HK4.out, HSI6.out⟩
          clear hE2 hl2 hfr
          go_wp2_with (fail)
          refine ordQ_more HSA.out ?_
          refine ordQ_take _ (.tuple #[.agg (refC v2 last2), .bool true]) rfl (by kernel_rfl) (yields_move (by kernel_rfl)) ?_
          refine ordQ_take _ (.agg (refC v2 last2)) rfl (by kernel_rfl) (fun w _ => by kernel_rfl) ?_
          refine ordQ_take _ (.bool true) rfl (by kernel_rfl) (fun w _ => by kernel_rfl) ?_
          refine ordQ_step _ (by simp only [List.getElem?_toArray, List.getElem?_cons_succ, List.getElem?_cons_zero]; rfl) ?_ ordQ_none
          go_simp
          with_reducible refine arm_alloc (zero_ref _) ?_
          intro bC w7 hbC kC hU7 hz7
          change w7.heap[bC]? = some (.cells (refC (.slice none 0 0) 0) 44 (0, 0)) at kC
          have HN4C : Hid (b4 ≠ bC) := by show b4 ≠ bC; have := lt_of_heap HK4.out; omega
          have HLC : Hid (w0.heap.size ≤ bC) := by show w0.heap.size ≤ bC; have := HLO6.out; omega
          have HK4 := Lib.hid (hU7.heap HK4.out (by simp))
          have HE := Lib.hid (HE.out.upd0 hU7)
          have HSB : Hid (SC w7) := (HSC.out _).2 ⟨HK4.out, HSI6.out.trans hU7⟩
          clear hbC hU7 hz7
          go_wp2_with (fail)
          refine ordQ_more HSB.out ?_
          refine ordQ_step _ (by simp only [List.getElem?_toArray, List.getElem?_cons_succ, List.getElem?_cons_zero]; rfl) ?_ ordQ_none
          with_reducible refine arm_store (by with_unfolding_all exact rfl) (by with_unfolding_all exact rfl) kC hs2 (by with_unfolding_all exact rfl) ho2 ?_
          intro w8 kC' hX8 hz8
          have HNC : Hid (b4 ≠ bC) := HN4C.out
          have HK4 := Lib.hid (hX8.heap HK4.out (fun hm => HNC.out (List.mem_singleton.1 hm)))
          have HE8 : Hid (ExS w8 w0 w0.heap.size bb bm bs v2 last2) := by
            obtain ⟨es, ks, D, m, q, b, h1, h2⟩ := HE.out
            exact ⟨es, ks, D, m, q, b, h1.local hX8 kC (by decide) (by decide) (by decide) HLC.out, h2.local hX8 kC (by decide) (by decide)⟩
          have HSI8 : Hid (Upd [] w0 w8) := by obtain ⟨_, _, _, _, _, _, h1, _⟩ := HE8.out; exact h1.since
          have HS8 : Hid (SC w8) := (HSC.out _).2 ⟨HK4.out, HSI8.out⟩
          have HKC := Lib.hid kC'
          clear hX8 hz8 kC
          go_wp2_with (fail)
          refine ordQ_more HS8.out ?_
          refine ordQ_step _ (by simp only [List.getElem?_toArray, List.getElem?_cons_succ, List.getElem?_cons_zero]; rfl) ?_ ordQ_none
          go_wp2_with (fail)
          refine ordQ_more HS8.out (ordQ_end ?_)
          have k4 := HK4.out
          go_wp2_with (first
            | (with_reducible refine arm_load (by with_unfolding_all exact rfl) kC' Try.underlying44 (by with_unfolding_all exact rfl) hs2 ?_)
            | (with_reducible refine arm_store (by with_unfolding_all exact rfl) (by with_unfolding_all exact rfl) k4 hs2 (by with_unfolding_all exact rfl) ho2 ?_))
          intro w9 k4' hX9 hz9
          have HE9 : Hid (ExS w9 w0 w0.heap.size bb bm bs v2 last2) := by
            obtain ⟨es, ks, D, m, q, b, h1, h2⟩ := HE8.out
            exact ⟨es, ks, D, m, q, b, h1.local hX9 k4 (by decide) (by decide) (by decide) HB4.out, h2.local hX9 k4 (by decide) (by decide)⟩
          have HK9 := Lib.hid k4'
          clear hX9 hz9 k4 k4' kC'
          obtain ⟨es, ks, D, m, q, b, hea, hsa⟩ := HE9.out
          have HEA := Lib.hid hea
          have hei : (es.length : Int) ≤ 4096 := by have := hea.bag.room; omega
          have HEK := Lib.hid hea.len
          clear hea hsa
          have HQ : Hid (∀ W, Upd [] w9 W → ∃ t fr', W.heap[b4]? = some (.cells (refC v2 last2) t fr')) := fun W hW => ⟨_, _, hW.heap HK9.out (by simp)⟩
          have HLE : Hid (∀ W, Upd [] w9 W → Calls Try.prog 13 #[.pointer (some ⟨bb, 0, none⟩)] W fun e w' => e = .returned (.int .i64 es.length) ∧ Upd [] W w') := fun W hW => (len_ W _ bb bm _ es D (HEA.out.bag.upd0 hW)).mono fun e w' h => ⟨h.1, by rw [h.2]; exact Upd.refl _ _⟩
          have HRO : Hid (∀ W, Upd [] w9 W → Calls Try.prog 18 #[.pointer (some ⟨bb, 0, none⟩)] W fun e w' => e = .returned (.int .i64 (4096 - (es.length : Int))) ∧ Upd [] W w') := fun W hW => (room_ W _ bb bm _ es D (HEA.out.bag.upd0 hW)).mono fun e w' h => ⟨h.1, by rw [h.2]; exact Upd.refl _ _⟩
          have HRL : Hid (∀ W, Upd [] w9 W → Calls Try.prog 17 #[.agg (refC v2 last2)] W fun e w' => e = .returned (.int .i64 es.length) ∧ Upd [] W w') := fun W hW => by
            rw [HEK.out]; exact rlen_ W v2 last2 ks (HEA.out.upd0 hW).rdm
          have HRR : Hid (∀ W, Upd [] w9 W → Calls Try.prog 19 #[.agg (refC v2 last2)] W fun e w' => e = .returned (.int .i64 (4096 - (es.length : Int))) ∧ Upd [] W w') := fun W hW => by
            rw [HEK.out]; exact rroom_ W v2 last2 ks (HEA.out.upd0 hW).rdm (by rw [← HEK.out]; exact HEA.out.bag.room)
          go_upto_region 13 with (fail)
          go_simp
          refine wp_region_quiet_all (Upd [] w9) (by kernel_rfl) (by kernel_rfl) (Upd.refl _ _).drew ?_
          repeat (first
            | go_big_quiet_skip
            | (refine wpQuiet_valK rfl (quiet_load_row 44 _ rfl b4 rfl _ HQ.out Try.underlying44 rfl hs2) (fun K hK => ?_); go_simp; refine hK _ ?_; clear hK K)
            | go_big_quiet_step ((intro hw2; first
                | rfl
                | ((with_reducible refine (HLE.out _ hw2).mono ?_); exact fun e w' h => ⟨h.1, hw2.trans h.2⟩)
                | ((with_reducible refine (HRO.out _ hw2).mono ?_); exact fun e w' h => ⟨h.1, hw2.trans h.2⟩)
                | ((with_reducible refine (HRL.out _ hw2).mono ?_); exact fun e w' h => ⟨h.1, hw2.trans h.2⟩)
                | ((with_reducible refine (HRR.out _ hw2).mono ?_); exact fun e w' h => ⟨h.1, hw2.trans h.2⟩))))
          refine wpQuiet_nil ?_
          intro wz hUz
          have HUz := Lib.hid hUz
          clear hUz HQ HLE HRO HRL HRR hei
          go_wp2_with (fail)
          go_roundw
          case rel => exact ⟨i + 1, v2, last2, by go_num, by omega, HE9.out.upd0 HUz.out, HUz.out.heap HK9.out (by simp), by have := HL2.out; have := HTM.out; have := HL1.out; omega⟩
          case measure => simp [intOf]; omega
        · refine ordQ_step _ (by simp only [List.getElem?_toArray, List.getElem?_cons_succ, List.getElem?_cons_zero]; rfl) ?_ ordQ_none
          go_simp
          with_reducible refine arm_alloc (zero_ref _) ?_
          intro bC w7 hbC kC hU7 hz7
          change w7.heap[bC]? = some (.cells (refC (.slice none 0 0) 0) 44 (0, 0)) at kC
          have hD7 : Upd [] wr w7 := ((Upd.refl [] wr).drew).trans hU7
          have HN4C : Hid (b4 ≠ bC) := by show b4 ≠ bC; have := HB4'.out; have h1 : wr.heap.size = bC := hbC; omega
          have HLC : Hid (w0.heap.size ≤ bC) := by show w0.heap.size ≤ bC; have := HSI.out.size; have h1 : wr.heap.size = bC := hbC; omega
          have HK4 := Lib.hid (hD7.heap HK4.out (by simp))
          have HE7 := Lib.hid (HE.out.upd0 hD7)
          have HS7 : Hid (SC w7) := (HSC.out _).2 ⟨HK4.out, HSI.out.trans hD7⟩
          have HKC0 := Lib.hid kC
          clear hbC hU7 hz7 kC hD7
          go_wp2_with (fail)
          refine ordQ_more HS7.out ?_
          refine ordQ_step _ (by simp only [List.getElem?_toArray, List.getElem?_cons_succ, List.getElem?_cons_zero]; rfl) ?_ ordQ_none
          go_wp2_with (fail)
          refine (HSTEP.out _ HE7.out).mono ?_
          rintro e w6 ⟨v2, last2, rfl, hE2, hl2, hfr⟩
          have HL2 : Hid (last2 ≤ last1 + (1 + s.n.toNat)) := hl2
          have HE := Lib.hid hE2
          have hs2 := size_ref v2 last2
          have ho2 := one_ref last2 (by obtain ⟨_, _, _, _, _, _, h1, _⟩ := hE2; exact h1.vo)
          have HSI6 : Hid (Upd [] w0 w6) := by obtain ⟨_, _, _, _, _, _, h1, _⟩ := hE2; exact h1.since
          have HLO6 : Hid (w0.heap.size ≤ w6.heap.size) := HSI6.out.size
          have HK4 := Lib.hid (hfr _ _ _ HK4.out)
          have kC := hfr _ _ _ HKC0.out
          have HSB : Hid (SC w6) := (HSC.out _).2 ⟨HK4.out, HSI6.out⟩
          clear hE2 hl2 hfr
          go_wp2_with (fail)
          refine ordQ_more HSB.out ?_
          refine ordQ_take _ (.tuple #[.agg (refC v2 last2), .bool true]) rfl (by kernel_rfl) (yields_move (by kernel_rfl)) ?_
          refine ordQ_take _ (.agg (refC v2 last2)) rfl (by kernel_rfl) (fun w _ => by kernel_rfl) ?_
          refine ordQ_take _ (.bool true) rfl (by kernel_rfl) (fun w _ => by kernel_rfl) ?_
          refine ordQ_step _ (by simp only [List.getElem?_toArray, List.getElem?_cons_succ, List.getElem?_cons_zero]; rfl) ?_ ordQ_none
          with_reducible refine arm_store (by with_unfolding_all exact rfl) (by with_unfolding_all exact rfl) kC hs2 (by with_unfolding_all exact rfl) ho2 ?_
          intro w8 kC' hX8 hz8
          have HNC : Hid (b4 ≠ bC) := HN4C.out
          have HK4 := Lib.hid (hX8.heap HK4.out (fun hm => HNC.out (List.mem_singleton.1 hm)))
          have HE8 : Hid (ExS w8 w0 w0.heap.size bb bm bs v2 last2) := by
            obtain ⟨es, ks, D, m, q, b, h1, h2⟩ := HE.out
            exact ⟨es, ks, D, m, q, b, h1.local hX8 kC (by decide) (by decide) (by decide) HLC.out, h2.local hX8 kC (by decide) (by decide)⟩
          have HSI8 : Hid (Upd [] w0 w8) := by obtain ⟨_, _, _, _, _, _, h1, _⟩ := HE8.out; exact h1.since
          have HS8 : Hid (SC w8) := (HSC.out _).2 ⟨HK4.out, HSI8.out⟩
          have HKC := Lib.hid kC'
          clear hX8 hz8 kC
          go_wp2_with (fail)
          refine ordQ_more HS8.out ?_
          refine ordQ_step _ (by simp only [List.getElem?_toArray, List.getElem?_cons_succ, List.getElem?_cons_zero]; rfl) ?_ ordQ_none
          go_wp2_with (fail)
          refine ordQ_more HS8.out (ordQ_end ?_)
          have k4 := HK4.out
          go_wp2_with (first
            | (with_reducible refine arm_load (by with_unfolding_all exact rfl) kC' Try.underlying44 (by with_unfolding_all exact rfl) hs2 ?_)
            | (with_reducible refine arm_store (by with_unfolding_all exact rfl) (by with_unfolding_all exact rfl) k4 hs2 (by with_unfolding_all exact rfl) ho2 ?_))
          intro w9 k4' hX9 hz9
          have HE9 : Hid (ExS w9 w0 w0.heap.size bb bm bs v2 last2) := by
            obtain ⟨es, ks, D, m, q, b, h1, h2⟩ := HE8.out
            exact ⟨es, ks, D, m, q, b, h1.local hX9 k4 (by decide) (by decide) (by decide) HB4.out, h2.local hX9 k4 (by decide) (by decide)⟩
          have HK9 := Lib.hid k4'
          clear hX9 hz9 k4 k4' kC'
          obtain ⟨es, ks, D, m, q, b, hea, hsa⟩ := HE9.out
          have HEA := Lib.hid hea
          have hei : (es.length : Int) ≤ 4096 := by have := hea.bag.room; omega
          have HEK := Lib.hid hea.len
          clear hea hsa
          have HQ : Hid (∀ W, Upd [] w9 W → ∃ t fr', W.heap[b4]? = some (.cells (refC v2 last2) t fr')) := fun W hW => ⟨_, _, hW.heap HK9.out (by simp)⟩
          have HLE : Hid (∀ W, Upd [] w9 W → Calls Try.prog 13 #[.pointer (some ⟨bb, 0, none⟩)] W fun e w' => e = .returned (.int .i64 es.length) ∧ Upd [] W w') := fun W hW => (len_ W _ bb bm _ es D (HEA.out.bag.upd0 hW)).mono fun e w' h => ⟨h.1, by rw [h.2]; exact Upd.refl _ _⟩
          have HRO : Hid (∀ W, Upd [] w9 W → Calls Try.prog 18 #[.pointer (some ⟨bb, 0, none⟩)] W fun e w' => e = .returned (.int .i64 (4096 - (es.length : Int))) ∧ Upd [] W w') := fun W hW => (room_ W _ bb bm _ es D (HEA.out.bag.upd0 hW)).mono fun e w' h => ⟨h.1, by rw [h.2]; exact Upd.refl _ _⟩
          have HRL : Hid (∀ W, Upd [] w9 W → Calls Try.prog 17 #[.agg (refC v2 last2)] W fun e w' => e = .returned (.int .i64 es.length) ∧ Upd [] W w') := fun W hW => by
            rw [HEK.out]; exact rlen_ W v2 last2 ks (HEA.out.upd0 hW).rdm
          have HRR : Hid (∀ W, Upd [] w9 W → Calls Try.prog 19 #[.agg (refC v2 last2)] W fun e w' => e = .returned (.int .i64 (4096 - (es.length : Int))) ∧ Upd [] W w') := fun W hW => by
            rw [HEK.out]; exact rroom_ W v2 last2 ks (HEA.out.upd0 hW).rdm (by rw [← HEK.out]; exact HEA.out.bag.room)
          go_upto_region 13 with (fail)
          go_simp
          refine wp_region_quiet_all (Upd [] w9) (by kernel_rfl) (by kernel_rfl) (Upd.refl _ _).drew ?_
          repeat (first
            | go_big_quiet_skip
            | (refine wpQuiet_valK rfl (quiet_load_row 44 _ rfl b4 rfl _ HQ.out Try.underlying44 rfl hs2) (fun K hK => ?_); go_simp; refine hK _ ?_; clear hK K)
            | go_big_quiet_step ((intro hw2; first
                | rfl
                | ((with_reducible refine (HLE.out _ hw2).mono ?_); exact fun e w' h => ⟨h.1, hw2.trans h.2⟩)
                | ((with_reducible refine (HRO.out _ hw2).mono ?_); exact fun e w' h => ⟨h.1, hw2.trans h.2⟩)
                | ((with_reducible refine (HRL.out _ hw2).mono ?_); exact fun e w' h => ⟨h.1, hw2.trans h.2⟩)
                | ((with_reducible refine (HRR.out _ hw2).mono ?_); exact fun e w' h => ⟨h.1, hw2.trans h.2⟩))))
          refine wpQuiet_nil ?_
          intro wz hUz
          have HUz := Lib.hid hUz
          clear hUz HQ HLE HRO HRL HRR hei
          go_wp2_with (fail)
          go_roundw
          case rel => exact ⟨i + 1, v2, last2, by go_num, by omega, HE9.out.upd0 HUz.out, HUz.out.heap HK9.out (by simp), by have := HL2.out; have := HTM.out; have := HL1.out; omega⟩
          case measure => simp [intOf]; omega
      · have hin : i = N := by have := HI.out; omega
        have hli : ¬ (i : Int) < (N : Int) := by omega
        obtain ⟨es, ks, D, m, q, b, hea, hsa⟩ := HE.out
        have HEA := Lib.hid hea
        have HSA := Lib.hid hsa
        have HEK := Lib.hid hea.len
        have HL9 : Hid (last1 ≤ 9200) := by show last1 ≤ 9200; have := HL1.out; have := times_le ss i; have := HFT.out.all; have := HNI.out; have := HI.out; omega
        clear hea hsa hin hlt hk4
        have HQ4 : Hid (∀ W, Upd [] wr W → ∃ t fr', W.heap[b4]? = some (.cells (refC v1 last1) t fr')) := fun W hW => ⟨_, _, hW.heap HK4.out (by simp)⟩
        have HC8 : Hid (∀ W, Upd [] wr W → W.cell? ⟨bs, 8, none⟩ = some (.bool b)) := fun W hW => by rw [cell_of_row _ _ _ _ _ _ (hW.heap HSA.out.cells (by simp))]; rfl
        have HL0' : Hid (∀ W, Upd [] wr W → W.rangeAt bs 0 (msgC m.id m.fr m.to m.v).toList) := fun W hW => range_of_row (cur := shL m q b) (hW.heap HSA.out.cells (by simp)) 0 _ ⟨[], [.int .i64 q.id, .int .i64 q.fr, .int .i64 q.to, q.v, .bool b], rfl, rfl⟩
        have HL4' : Hid (∀ W, Upd [] wr W → W.rangeAt bs 4 (msgC q.id q.fr q.to q.v).toList) := fun W hW => range_of_row (cur := shL m q b) (hW.heap HSA.out.cells (by simp)) 4 _ ⟨[.int .i64 m.id, .int .i64 m.fr, .int .i64 m.to, m.v], [.bool b], rfl, rfl⟩
        have hsm0 : (Try.prog.info? 32).map (·.size) = some (msgC m.id m.fr m.to m.v).toList.length := size_msg4
        have hsq0 : (Try.prog.info? 32).map (·.size) = some (msgC q.id q.fr q.to q.v).toList.length := size_msg4
        go_upto_region 15 with (fail)
        go_simp
        refine wp_region_ordT (.take 0 (.take 2 (.step 1 (.step 3 (.step 4 (.take 5 (.take 6 (.take 7 (.take 8 (.take 9 (.take 10 (.take 11 (.take 12 (.take 13 (.take 14 (.take 15 (.take 16 (.take 17 (.take 18 (.take 19 (.step 20 (.take 21 (.take 22 (.step 23 .none .none))) .none)))))))))))))))) .none) .none) .none))) (Upd [] wr) (by kernel_rfl) (by kernel_rfl) (Upd.refl _ _).drew ?_
        refine ordQ_take _ (.pointer (some ⟨bb, 0, none⟩)) rfl (by kernel_rfl) (yields_move (by kernel_rfl)) ?_
        refine ordQ_take _ (.agg (refC v1 last1)) rfl (by kernel_rfl) (yields_row (g := b4) (by kernel_rfl) HQ4.out Try.underlying44 rfl hsz) ?_
        have HD : Hid (Upd [] wr wr.drew) := (Upd.refl _ _).drew
        refine ordQ_step _ (by simp only [List.getElem?_toArray, List.getElem?_cons_succ, List.getElem?_cons_zero]; rfl) ?_ ordQ_none
        go_simp
        go_wp2_with (fail)
        refine (list_ _ _ bb bm last1 es D (HEA.out.upd0 HD.out).bag (by have := HL9.out; omega)).mono ?_
        rintro e w8 ⟨v8, ts, rfl, hts, hM8, hU8⟩
        have HTS := Lib.hid hts
        have HM8 := Lib.hid hM8
        have HU8 := Lib.hid (HD.out.trans hU8)
        clear hts hM8 hU8
        go_wp2_with (fail)
        refine ordQ_more HU8.out ?_
        refine ordQ_step _ (by simp only [List.getElem?_toArray, List.getElem?_cons_succ, List.getElem?_cons_zero]; rfl) ?_ ordQ_none
        go_wp2_with (fail)
        refine (rlist_ _ v1 last1 ks (HEA.out.upd0 HU8.out).rdm (by rw [← HEK.out]; exact HEA.out.bag.room)).mono ?_
        rintro e w9 ⟨v9, rfl, hO9, hU9⟩
        have HU9 := Lib.hid (HU8.out.trans hU9)
        have HM9 := Lib.hid (HM8.out.upd0 hU9)
        have HR9 : Hid (RdM w9 v9 ks) := ⟨hO9.rd, (HEA.out.upd0 HU9.out).rdm.bodies⟩
        clear hO9 hU9
        go_wp2_with (fail)
        refine ordQ_more HU9.out ?_
        refine ordQ_step _ (by simp only [List.getElem?_toArray, List.getElem?_cons_succ, List.getElem?_cons_zero]; rfl) ?_ ordQ_none
        go_wp2_with (fail)
        refine (sameL_ _ v8 v9 ts ks HM9.out.rd HR9.out (fun t ht => ?_) (fun t ht => ?_) ?_ ?_).mono ?_
        · have h1 : t.core ∈ (es.map Ent.core) := by rw [← HTS.out]; exact List.mem_map.2 ⟨t, ht, rfl⟩
          obtain ⟨y, hy, e⟩ := List.mem_map.1 h1
          have h2 : t.b = y.b := (congrArg (fun p => p.2.2.2) e).symm
          rw [h2]
          have := HEA.out.bag.short y hy
          omega
        · have h1 : t.core ∈ (es.map Ent.core) := by rw [HEA.out.alike]; exact List.mem_map.2 ⟨t, ht, rfl⟩
          obtain ⟨y, hy, e⟩ := List.mem_map.1 h1
          have h2 : t.b = y.b := (congrArg (fun p => p.2.2.2) e).symm
          rw [h2]
          have := HEA.out.bag.short y hy
          omega
        · have := congrArg List.length HTS.out
          simp only [List.length_map] at this
          have := HEA.out.bag.room
          omega
        · rw [← HEK.out]; have := HEA.out.bag.room; omega
        · rintro e wa ⟨rfl, hUa⟩
          have hd : decide (ts.map Ent.core = ks.map Ent.core) = true := by simp [HTS.out.trans HEA.out.alike]
          rw [hd]
          have HUa := Lib.hid (HU9.out.trans hUa)
          clear hUa hd
          go_wp2_with (fail)
          refine ordQ_more HUa.out ?_
          refine ordQ_take _ (.bool true) rfl (by kernel_rfl) (yields_move (by kernel_rfl)) ?_
          refine ordQ_take _ (.pointer (some ⟨bs, 0, none⟩)) rfl (by kernel_rfl) (yields_move (by kernel_rfl)) ?_
          refine ordQ_take _ (.pointer (some ⟨bs, 0, none⟩)) rfl (by kernel_rfl) (fun w _ => by kernel_rfl) ?_
          refine ordQ_take _ (.pointer (some ⟨bs, 8, none⟩)) rfl (by kernel_rfl) (fun w _ => by kernel_rfl) ?_
          refine ordQ_take _ (.bool b) rfl (by kernel_rfl) (yields_cell (p := ⟨bs, 8, none⟩) (by kernel_rfl) HC8.out Try.underlying4 rfl) ?_
          cases b with
          | false =>
            refine ordQ_take _ (.bool true) rfl (by kernel_rfl) (fun w _ => by kernel_rfl) ?_
            refine ordQ_take _ (.bool true) rfl (by kernel_rfl) (yields_move (by kernel_rfl)) ?_
            iterate 8 refine ordQ_off _ rfl (by kernel_rfl) ?_
            refine ordQ_step _ (by simp only [List.getElem?_toArray, List.getElem?_cons_succ, List.getElem?_cons_zero]; rfl) ?_ ordQ_none
            go_wp2_with (fail)
            refine ordQ_more HUa.out ?_
            refine ordQ_take _ (.bool true) rfl (by kernel_rfl) (fun w _ => by kernel_rfl) ?_
            refine ordQ_take _ (.bool true) rfl (by kernel_rfl) (fun w _ => by kernel_rfl) ?_
            refine ordQ_step _ (by simp only [List.getElem?_toArray, List.getElem?_cons_succ, List.getElem?_cons_zero]; rfl) ?_ ordQ_none
            go_wp2_with (fail)
            refine ordQ_more HUa.out (ordQ_end ?_)
            go_wp2_with (fail)
            go_ret
            exact ⟨rfl, HU0.out.trans (HEA.out.since.trans HUa.out)⟩
          | true =>
            refine ordQ_take _ (.bool false) rfl (by kernel_rfl) (fun w _ => by kernel_rfl) ?_
            refine ordQ_take _ (.bool false) rfl (by kernel_rfl) (yields_move (by kernel_rfl)) ?_
            refine ordQ_take _ (.pointer (some ⟨bs, 0, none⟩)) rfl (by kernel_rfl) (yields_move (by kernel_rfl)) ?_
            refine ordQ_take _ (.pointer (some ⟨bs, 0, none⟩)) rfl (by kernel_rfl) (fun w _ => by kernel_rfl) ?_
            refine ordQ_take _ (.pointer (some ⟨bs, 0, none⟩)) rfl (by kernel_rfl) (fun w _ => by kernel_rfl) ?_
            refine ordQ_take _ (.agg (msgC m.id m.fr m.to m.v)) rfl (by kernel_rfl) (yields_mid (g := bs) (k := 0) (by kernel_rfl) HL0'.out Try.underlying32 rfl hsm0) ?_
            refine ordQ_take _ (.pointer (some ⟨bs, 0, none⟩)) rfl (by kernel_rfl) (yields_move (by kernel_rfl)) ?_
            refine ordQ_take _ (.pointer (some ⟨bs, 0, none⟩)) rfl (by kernel_rfl) (fun w _ => by kernel_rfl) ?_
            refine ordQ_take _ (.pointer (some ⟨bs, 4, none⟩)) rfl (by kernel_rfl) (fun w _ => by kernel_rfl) ?_
            refine ordQ_take _ (.agg (msgC q.id q.fr q.to q.v)) rfl (by kernel_rfl) (yields_mid (g := bs) (k := 4) (by kernel_rfl) HL4'.out Try.underlying32 rfl hsq0) ?_
            refine ordQ_step _ (by simp only [List.getElem?_toArray, List.getElem?_cons_succ, List.getElem?_cons_zero]; rfl) ?_ ordQ_none
            have HSB := Lib.hid (HSA.out.upd0 HUa.out)
            have HQB : Hid (q.b.length ≤ 1024) := by have e : m.b = q.b := congrArg (fun p => p.2.2.2) HSA.out.alike; show q.b.length ≤ 1024; rw [← e]; exact HSA.out.short
            go_wp2_with (fail)
            refine (sameM_ _ m q HSB.out.own.rd HSB.out.ownw.rd (by have := HSA.out.short; omega) (by have := HQB.out; omega)).mono ?_
            rintro e wb ⟨rfl, hUb⟩
            have heq : eqCore m q = true := (eqCore_iff _ _).2 HSA.out.alike
            rw [heq]
            have HUb := Lib.hid (HUa.out.trans hUb)
            clear hUb heq
            go_wp2_with (fail)
            refine ordQ_more HUb.out ?_
            refine ordQ_take _ (.bool true) rfl (by kernel_rfl) (fun w _ => by kernel_rfl) ?_
            refine ordQ_take _ (.bool true) rfl (by kernel_rfl) (fun w _ => by kernel_rfl) ?_
            refine ordQ_step _ (by simp only [List.getElem?_toArray, List.getElem?_cons_succ, List.getElem?_cons_zero]; rfl) ?_ ordQ_none
            go_wp2_with (fail)
            refine ordQ_more HUb.out (ordQ_end ?_)
            go_wp2_with (fail)
            go_ret
            exact ⟨rfl, HU0.out.trans (HEA.out.since.trans HUb.out)⟩
end Go.Proofs.Ytjeddokenpkpnaa
