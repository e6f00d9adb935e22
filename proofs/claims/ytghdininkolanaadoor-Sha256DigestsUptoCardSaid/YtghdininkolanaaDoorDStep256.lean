/-
  The law's step: one call on one of the Digests.
-/
import Derived.Test.YtghdininkolanaaDoorDStepA
namespace Go.Proofs.YtghdininkolanaaDoor
open Go Go.RowKit Go.Proofs
/-- what a step leaves -/
def Stepped (w0 : World) (M : Nat) (e : Ending) (w' : World) : Prop := ∃ lv' ps', e = .returned (.tuple #[lv', .bool true]) ∧ Pairs w' w0.heap.size lv' ps' ∧ ps'.length ≤ 4 ∧ (∀ i (h : i < ps'.length), ps'[i].m.length ≤ M) ∧ Upd [] w0 w'
theorem step_same {w0 w wt : World} {g n cap M : Nat} {ps : List DPair} {e : Ending} (hU0 : Upd [] w0 w) (hP : Pairs w w0.heap.size (.slice (some ⟨g, 0, none⟩) ps.length cap) ps) (hn : ps.length = n) (h4 : ps.length ≤ 4) (hm : ∀ i (h : i < ps.length), ps[i].m.length ≤ M)
    (hV : Upd [] w wt) (he : e = .returned (.tuple #[.slice (some ⟨g, 0, none⟩) n cap, .bool true])) : Stepped w0 (M + 1048576) e wt := by
  subst hn
  exact ⟨_, ps, he, hP.upd0 hV, h4, fun i hi => by have := hm i hi; omega, hU0.trans hV⟩
theorem built_pair (E : Nat) (A : Option Addr) (m c : Nat) : Tryd.prog.built 27 [(0, .pointer (some ⟨E, 0, none⟩)), (1, .slice A m c)] = some #[.pointer (some ⟨E, 0, none⟩), .slice A m c, .slice none 0 0] := by kernel_rfl
theorem info_pair : ∃ i, Tryd.prog.info? 27 = some i ∧ (∃ z, i.zero = some z ∧ z.cells.size = 3) ∧ i.size = 3 ∧ i.bytes = 56 := by
  have h : (Tryd.prog.info? 27).map (fun i => (i.zero.map (·.cells.size), i.size, i.bytes)) = some (some 3, 3, 56) := by kernel_rfl
  cases hq : Tryd.prog.info? 27 with
  | none => rw [hq] at h; cases h
  | some i =>
    rw [hq] at h
    simp only [Option.map_some, Option.some.injEq, Prod.mk.injEq] at h
    refine ⟨i, rfl, ?_, h.2.1, h.2.2⟩
    cases hz : i.zero with
    | none => rw [hz] at h; cases h.1
    | some z => rw [hz] at h; exact ⟨z, rfl, by simpa using h.1⟩
/-- one pair, laid into a new block -/
theorem bsP {ops : Array Oper} {rest : List Oper} {a : Act} {w : World} {Q : Exit → Act → World → Prop} {dst : Option Tmp} {type : TypeId} {pos : String} {after : Array Edge} {x1 : Operand} {l : List Value} {cs : Array Value} (hcs : l.toArray = cs) (hll : l.length = 3) (h1 : a.eval x1 = .agg cs)
    (h : ∀ g w', w.heap.size = g → w'.heap[g]? = some (.cells l.toArray 27 (0, 0)) → Upd [] w w' → wpList Tryd.prog ops Q rest (a.put dst (.slice (some ⟨g, 0, none⟩) 1 1)) w') :
    wpList Tryd.prog ops Q (⟨dst, .buildSlice 28 1 #[(0, x1)], type, pos, after, none⟩ :: rest) a w := by
  subst hcs
  obtain ⟨i, hi, ⟨z, hz, hzc⟩, hs, hby⟩ := info_pair
  refine wpList_buildSlice rfl 28 27 1 _ rfl l.toArray i z Tryd.underlying28 hi hz (by rw [hs]; decide) (by rw [hs]; decide) ?_ (h _ _ rfl (hget_new rfl) ((Upd.refl _ w).alloc _))
  have := Great.fill_whole (s := 3) (by omega) [.agg l.toArray] ((Array.range (1 * i.size)).map (z.cells[· % z.cells.size]!)) (fun v hv => by rw [List.mem_singleton.1 hv]; simp [Value.cells, hll]) (by rw [hs]; simp)
  simp only [List.map_toArray, List.map_cons, List.map_nil, h1, hs]
  rw [hs] at this
  simpa [Value.cells] using this
theorem pair_one (E : Nat) (A : Option Addr) (m c : Nat) : ∀ u ∈ ([.pointer (some ⟨E, 0, none⟩), .slice A m c, .slice none 0 0] : List Value), u.oneCell' = true := by
  intro u hu
  simp only [List.mem_cons, List.not_mem_nil, or_false] at hu
  rcases hu with rfl | rfl | rfl <;> rfl
theorem step_twin {w0 w w4 w5 w6 : World} {g n cap k M ca : Nat} {Aa : Option Addr} {ps : List DPair} {p : DPair} {e : Ending} {v6 : Value} (E : Nat) (hU0 : Upd [] w0 w) (hP : Pairs w w0.heap.size (.slice (some ⟨g, 0, none⟩) ps.length cap) ps) (hpk : ps[k]? = some p) (hn : ps.length = n) (h4 : n < 4) (hm : ∀ i (h : i < ps.length), ps[i].m.length ≤ M)
    (hea : p.a = .slice Aa p.m.length ca) (hV4 : Upd [] w w4) (hU5 : Upd [] w4 w5) (hU6 : Upd (Value.slice (some ⟨g, 0, none⟩) n cap).ownBlock.toList w5 w6) (hrow : w6.ownsRow w0.heap.size 27 3 v6 (n + 1) (dCells ps ++ [.pointer (some ⟨E, 0, none⟩), .slice Aa p.m.length ca, .slice none 0 0]))
    (hdig : DigOf256 w4 E p.m) (hE : w.heap.size ≤ E) (he : e = .returned (.tuple #[v6, .bool true])) : Stepped w0 (M + 1048576) e w6 := by
  subst hn
  obtain ⟨hk, hp⟩ := List.getElem?_eq_some_iff.1 hpk
  have hgB := (own_block hP.row g rfl).1
  have hgw := (own_block hP.row g rfl).2
  have hU : Upd [g] w w6 := (hV4.trans hU5).of0.trans' hU6 (fun i hm _ => by simpa [Value.ownBlock] using hm)
  have hw := hV4.size
  have hd6 : DigOf256 w6 E p.m := (hdig.upd hU5 (by simp)).upd hU6 (fun hm => by simp [Value.ownBlock] at hm; omega)
  have hcells : dCells (ps ++ [⟨E, p.a, .slice none 0 0, p.m⟩]) = dCells ps ++ [.pointer (some ⟨E, 0, none⟩), .slice Aa p.m.length ca, .slice none 0 0] := by
    simp [dCells, DPair.cells, hea]
  refine ⟨v6, ps ++ [⟨E, p.a, .slice none 0 0, p.m⟩], he, ?_, by simp; omega, fun i hi => ?_, hU0.trans' hU (fun i hm hl => by have := List.mem_singleton.1 hm; omega)⟩
  · refine hP.twin hk hU (fun i hi => ?_) (by rw [hcells]; exact hrow) (by rw [hp]; exact hd6) (by rw [hp]) (by have := hU0.size; omega) hE (by rw [hp]) rfl
    rw [List.mem_singleton.1 hi]
    exact .inl rfl
  · by_cases hik : i < ps.length
    · rw [List.getElem_append_left hik]; have := hm i hik; omega
    · have : i = ps.length := by simp at hi; omega
      subst this
      have := hm k hk
      rw [hp] at this
      simp; omega
theorem step_end {w0 w wt : World} {g n cap k M : Nat} {ps : List DPair} {p : DPair} {e : Ending} (p' : DPair) (hU0 : Upd [] w0 w) (hP : Pairs w w0.heap.size (.slice (some ⟨g, 0, none⟩) ps.length cap) ps) (hpk : ps[k]? = some p) (hn : ps.length = n) (h4 : ps.length ≤ 4) (hm : ∀ i (h : i < ps.length), ps[i].m.length ≤ M)
    (hrow : wt.ownsRow w0.heap.size 27 3 (.slice (some ⟨g, 0, none⟩) n cap) n (dCells ps)) (hV : Upd (p.D :: p.h.ownBlock.toList) w wt) (ok : PairOk wt w0.heap.size p') (hD : p'.D = p.D)
    (hA : ∀ j, p'.a.ownBlock = some j → p.a.ownBlock = some j ∨ w.heap.size ≤ j) (hH : ∀ j, p'.h.ownBlock = some j → p.h.ownBlock = some j ∨ w.heap.size ≤ j) (hHA : ∀ j, p'.h.ownBlock = some j → p'.a.ownBlock ≠ some j)
    (hml : p'.m.length ≤ M + 1048576) (he : e = .returned (.tuple #[.slice (some ⟨g, 0, none⟩) n cap, .bool true])) : Stepped w0 (M + 1048576) e (wt.setCells g (k * 3) p'.cells) := by
  subst hn
  obtain ⟨hk, hp⟩ := List.getElem?_eq_some_iff.1 hpk
  obtain ⟨_, hset⟩ := own_setN hrow k hk p'.cells rfl
  have hX : Upd [g] wt (wt.setCells g (k * 3) p'.cells) := (Upd.refl _ _).setCells g _ _ (by simp)
  have hgB := (own_block hrow g rfl).1
  have hgw := (own_block hP.row g rfl).2
  have hcur : ∃ cur, wt.heap[g]? = some (.cells cur 27 (0, 0)) := by
    rcases hrow.2 with ⟨h1, _⟩ | ⟨g', _, cur, h1, _, hh, _⟩
    · cases h1
    · injection h1 with h1
      injection h1 with h1
      injection h1 with h1
      subst h1
      exact ⟨cur, hh⟩
  obtain ⟨cur, hcur⟩ := hcur
  obtain ⟨q, hq⟩ := ok.hand
  have ok' : PairOk (wt.setCells g (k * 3) p'.cells) w0.heap.size p' := ok.upd hX (fun h => dig_pair ok.dig hcur (by simpa using h)) (fun j hj h => own_pair ok.all hcur (by rw [hj, List.mem_singleton.1 h])) (fun j hj h => own_pair hq hcur (by rw [hj, List.mem_singleton.1 h]))
  have hSB : ∀ i ∈ g :: p.D :: p.h.ownBlock.toList, w0.heap.size ≤ i := fun i hi => by
    have hok := hP.ok k hk
    rw [hp] at hok
    obtain ⟨q2, hq2⟩ := hok.hand
    rcases List.mem_cons.1 hi with rfl | hi
    · exact hgB
    · rcases List.mem_cons.1 hi with rfl | hi
      · exact hok.old
      · exact (hq2.lt i (by simpa using hi)).1
  have hU : Upd (g :: p.D :: p.h.ownBlock.toList) w (wt.setCells g (k * 3) p'.cells) := (hV.mono (fun i hm _ => List.mem_cons_of_mem _ hm)).trans' hX (fun i hm _ => by rw [List.mem_singleton.1 hm]; exact List.mem_cons_self)
  refine ⟨.slice (some ⟨g, 0, none⟩) ps.length cap, ps.set k p', he, ?_, by simpa using h4, fun i hi => ?_, hU0.trans' hU (fun i hm hl => by have := hSB i hm; omega)⟩
  · refine hP.set hk (g := g) rfl hU (fun i hi => ?_) (by rw [dCells_set ps k p' hk]; exact hset) ok' (by rw [hD, hp]) (fun j hj => by rw [hp]; exact hA j hj) (fun j hj => by rw [hp]; exact hH j hj) hHA
    rw [hp]
    rcases List.mem_cons.1 hi with rfl | hi
    · exact .inr (.inr rfl)
    · rcases List.mem_cons.1 hi with rfl | hi
      · exact .inl rfl
      · exact .inr (.inl (by simpa using hi))
  · have hi' : i < ps.length := by simpa using hi
    by_cases hik : i = k
    · subst hik; simpa using hml
    · rw [List.getElem_set_ne (fun e => hik e.symm)]; have := hm i hi'; omega
set_option maxRecDepth 100000 in
set_option maxHeartbeats 12800000 in
theorem step02 (w0 w : World) (lv v : Value) (ps : List DPair) (k M : Nat) (kind : Int) (who : BitVec 8) (d : List (BitVec 8)) (hU0 : Upd [] w0 w) (hP : Pairs w w0.heap.size lv ps) (hk : k < ps.length) (h4 : ps.length ≤ 4) (hv : RdB w0 v d) (hd : d.length ≤ 1048576)
    (hm : ∀ i (h : i < ps.length), ps[i].m.length ≤ M) (hM : M ≤ 1099511627776) (hg : Gl256 w0) (hf : GlFirst256 w0) :
    Calls Tryd.prog 7 #[lv, .int .i64 k, .agg #[.int .i64 kind, U8 who, v]] w (Stepped w0 (M + 1048576)) := by
  obtain ⟨g, cap, rfl, hgB, hgl, hnc, hcm, cur, hcur⟩ := hP.at
  obtain ⟨n, hn⟩ : ∃ n, ps.length = n := ⟨_, rfl⟩
  obtain ⟨p, hp⟩ : ∃ p, ps[k] = p := ⟨_, rfl⟩
  have hel := hP.elem k hk
  have hok := hP.ok k hk
  rw [hp] at hel hok
  have hmk : p.m.length ≤ M := by rw [← hp]; exact hm k hk
  obtain ⟨Av, cv, rfl, hvc, hvm⟩ := hv.isSlice
  obtain ⟨L, hL⟩ : ∃ L, d.length = L := ⟨_, rfl⟩
  have hrow := hP.row
  have hone := hok.cells1
  rw [hn] at hrow hnc
  rw [hn, hL]
  have kn : (k : Int) < (n : Int) := by omega
  have n4 : (n : Int) ≤ 4 := by omega
  have HP := Lib.hid hP
  have HOK := Lib.hid hok
  have HM := Lib.hid hm
  have HMK := Lib.hid hmk
  have HMM := Lib.hid hM
  have HG := Lib.hid hg
  have HF := Lib.hid hf
  have HV := Lib.hid hv
  have HN := Lib.hid hn
  have HH4 := Lib.hid h4
  have HPK : Hid (ps[k]? = some p) := by show ps[k]? = some p; rw [List.getElem?_eq_getElem hk, hp]
  have HLL := Lib.hid hL
  have HK := Lib.hid hk
  have HD := Lib.hid hd
  have HU0 := Lib.hid hU0
  have HROW := Lib.hid hrow
  have HONE := Lib.hid hone
  have HGB : Hid (w0.heap.size ≤ g) := hgB
  have HCUR := Lib.hid hcur
  have hsz3 : (Tryd.prog.info? 27).map (·.size) = some p.cells.length := size_pair
  have hszP : (Tryd.prog.info? 27).map (·.size) = some p.cells.toArray.size := size_pair
  have hoP : zpair.size = p.cells.toArray.size := rfl
  have haP : p.cells.toArray.all (·.oneCell') = true := by
    rw [Array.all_eq_true]
    intro i hi
    exact hone _ (by simp)
  have LB : Hid (d.length ≤ 1048576) := hd
  clear hP hn hp hok hm hM hg hf hv hL hk hd hU0 hrow hone hgB h4 hmk
  go_enter Tryd.func7, Tryd.ntmps7
  go_wp2_with (with_reducible refine arm_box (by with_unfolding_all exact rfl) ?_)
  intro b5 w1 hb5 k5 hU1 hz1
  change w1.heap[b5]? = some (.cells #[.int .i64 kind, U8 who, .slice Av L cv] 32 (0, 0)) at k5
  have hel1 : w1.rangeAt g (k * 3) p.cells := fun j u hj => hU1.cell (hel j u hj) (by simp)
  go_wp2_with (first
    | (with_reducible refine arm_load_mid (by with_unfolding_all exact rfl) hel1 Tryd.underlying27 (by with_unfolding_all exact rfl) hsz3 ?_)
    | (with_reducible refine arm_alloc (zero_pair _) ?_))
  intro b8 w2 hb8 k8 hU2 hz2
  change w2.heap[b8]? = some (.cells zpair 27 (0, 0)) at k8
  go_wp2_with (with_reducible refine arm_store (by with_unfolding_all exact rfl) (by with_unfolding_all exact rfl) k8 hszP hoP haP ?_)
  intro w3 kp hX3 hz3
  have hT3 := hU2.fresh hb8 hX3
  have ko := hT3.heap k5 (by simp)
  have hV3 := hU1.trans hT3
  have hl5 : w.heap.size ≤ b5 := Nat.le_of_eq hb5
  have hl8 : w.heap.size ≤ b8 := by have := hU1.size; omega
  have h58 : b5 ≠ b8 := by have := lt_of_heap k5; omega
  have HV3 := Lib.hid hV3
  have HL5 : Hid (w.heap.size ≤ b5) := hl5
  have HL8 : Hid (w.heap.size ≤ b8) := hl8
  have HNE : Hid (b5 ≠ b8) := h58
  have c0 : w3.cell? ⟨b5, 0, none⟩ = some (.int .i64 kind) := by rw [cell_of_row _ _ _ _ _ _ ko]; rfl
  have HKO := Lib.hid ko
  have HKP := Lib.hid kp
  clear hb5 k5 hU1 hz1 hel1 hb8 k8 hU2 hz2 hX3 hz3 hT3 ko kp hV3 hl5 hl8 h58 hel
  go_upto_region 3 with (fail)
  go_simp
  by_cases hk1 : kind = 1
  · subst hk1
    have HC8 : Hid (∀ (W W' : World) (S : List Nat), W.heap[b8]? = some (.cells p.cells.toArray 27 (0, 0)) → Upd S W W' → b8 ∉ S → W'.cell? ⟨b8, 0, none⟩ = some (.pointer (some ⟨p.D, 0, none⟩)) ∧ W'.cell? ⟨b8, 1, none⟩ = some p.a ∧ W'.cell? ⟨b8, 2, none⟩ = some p.h) := fun W W' S h u hS => by
      have h' := u.heap h hS
      exact ⟨by rw [cell_of_row _ _ _ _ _ _ h']; rfl, by rw [cell_of_row _ _ _ _ _ _ h']; rfl, by rw [cell_of_row _ _ _ _ _ _ h']; rfl⟩
    obtain ⟨q, hq⟩ := HOK.out.hand
    obtain ⟨A0, n0, c0', e0, hn0, hO0, hb0⟩ := own_cut0 hq
    have hA0 : A0 = none ∨ ∃ g, A0 = some ⟨g, 0, none⟩ := by
      rcases hO0.2 with ⟨e, _⟩ | ⟨g', _, _, e, _⟩ <;> injection e with e1 e2 e3
      · exact .inl e1
      · exact .inr ⟨_, e1⟩
    have hhl : ∀ i, p.h.ownBlock = some i → w0.heap.size ≤ i ∧ i < w.heap.size := fun i hi => hq.lt i hi
    -- the hand's block, apart from all else
    have hhD := own_dig256 hq HOK.out.dig
    have hhg := own_pair hq HCUR.out
    have hl3 : ∀ i, p.h.ownBlock = some i → i ≠ b5 ∧ i ≠ b8 := fun i hi => by have := (hhl i hi).2; have := HL5.out; have := HL8.out; omega
    have HS4 : ∀ W, Upd p.h.ownBlock.toList w3 W → W.cell? ⟨b8, 2, none⟩ = some (.slice A0 n0 c0') ∧ W.cell? ⟨b5, 2, none⟩ = some (.slice Av L cv) := fun W hW => by
      rw [← e0]
      refine ⟨(HC8.out _ _ _ HKP.out hW (fun hm => (hl3 b8 (by simpa using hm)).2 rfl)).2.2, ?_⟩
      have h' := hW.heap HKO.out (fun hm => (hl3 b5 (by simpa using hm)).1 rfl)
      rw [cell_of_row _ _ _ _ _ _ h']; rfl
    have HS4 := Lib.hid HS4
    have HE0 := Lib.hid e0
    clear e0
    have HHA : Hid (∀ i, p.h.ownBlock = some i → p.a.ownBlock ≠ some i) := by
      obtain ⟨hk', hp'⟩ := List.getElem?_eq_some_iff.1 HPK.out
      intro i hi
      have := HP.out.ha k k hk' hk' i (by rw [hp']; exact hi)
      rwa [hp'] at this
    have HMRK : Hid (∀ W, Upd [] w0 W → Calls Tryd.prog 18 #[.slice Av L cv] W fun e w' => ∃ gm cm, e = .returned (.slice (some ⟨gm, 0, none⟩) L cm) ∧ OwnB w' W.heap.size (.slice (some ⟨gm, 0, none⟩) (L + 80) cm) (marks80 d) ∧ Upd [] W w') := fun W hW => by
      have h := marked02 W _ d (HV.out.upd0 hW) (by have := LB.out; omega)
      rwa [HLL.out] at h
    go_upto_region 4 with (fail)
    go_simp
    refine wp_region_orders [0, 1, 2, 3, 4, 6, 7, 8, 9] (.step 5 (.step 10 (.step 11 (.step 12 .none .none) .none) .none) .none) (Upd p.h.ownBlock.toList w3) (by kernel_rfl) (by kernel_rfl) ((Upd.refl _ _).drew) ?_
    refine takeO_cons _ (.pointer (some ⟨b8, 2, none⟩)) rfl (by kernel_rfl) (fun w _ => by kernel_rfl) ?_
    refine takeO_cons _ (.slice A0 n0 c0') rfl (by kernel_rfl) (yields_cell (p := ⟨b8, 2, none⟩) (by kernel_rfl) (fun W hW => (HS4.out W hW).1) Tryd.underlying25 rfl) ?_
    refine takeO_cons _ (.slice A0 0 c0') rfl (by kernel_rfl) (yields_slice (by kernel_rfl) (by kernel_rfl) (by kernel_rfl) (by kernel_rfl) (fun W => slice0 W 25 1 A0 n0 c0' hn0 (by rw [elem_bytes]; exact Tryd.underlying25) (by rw [elem_bytes]; kernel_rfl) hA0)) ?_
    refine takeO_cons _ (.pointer (some ⟨b5, 2, none⟩)) rfl (by kernel_rfl) (fun w _ => by kernel_rfl) ?_
    refine takeO_cons _ (.slice Av L cv) rfl (by kernel_rfl) (yields_cell (p := ⟨b5, 2, none⟩) (by kernel_rfl) (fun W hW => (HS4.out W hW).2) Tryd.underlying25 rfl) ?_
    refine takeO_cons _ (.pointer (some ⟨b5, 2, none⟩)) rfl (by kernel_rfl) (fun w _ => by kernel_rfl) ?_
    refine takeO_cons _ (.slice Av L cv) rfl (by kernel_rfl) (yields_cell (p := ⟨b5, 2, none⟩) (by kernel_rfl) (fun W hW => (HS4.out W hW).2) Tryd.underlying25 rfl) ?_
    refine takeO_cons _ (.int .i64 L) rfl (by kernel_rfl) (fun w _ => by kernel_rfl) ?_
    refine takeO_cons _ (.int .i64 (L + 80)) rfl (by kernel_rfl) (yields_add (m := L) (n := 80) (by kernel_rfl) (by kernel_rfl) rfl (by omega) (by have := LB.out; have := HLL.out; omega)) ?_
    refine takeO_nil (by simp [Ord.first]) ?_
    refine ordP_step _ (by simp only [List.getElem?_toArray, List.getElem?_cons_succ, List.getElem?_cons_zero]; rfl) ?_ ordP_none
    go_wp2_with (fail)
    with_reducible refine (HMRK.out _ (HU0.out.trans HV3.out).drew).mono ?_
    rintro e w4 ⟨gm, cm, rfl, hO4, hU4⟩
    have hT4 : Upd p.h.ownBlock.toList w3 w4 := ((Upd.refl [] w3).drew.trans hU4).of0
    have hW4 : Upd [] w3 w4 := (Upd.refl [] w3).drew.trans hU4
    have hc4' : L + 80 ≤ cm ∧ cm ≤ maxLen := by
      obtain ⟨_, _, e4, _, _, h1, h2⟩ := hO4.at (by rw [marks80_length]; omega)
      injection e4 with _ _ e4
      rw [marks80_length, HLL.out, ← e4] at h1
      rw [← e4] at h2
      exact ⟨h1, h2⟩
    obtain ⟨hc4, hc4m⟩ := hc4'
    have hc4i : (L : Int) + 80 ≤ (cm : Int) := by omega
    have hc4j : ((cm : Int)) ≤ 9223372036854775807 := by unfold maxLen at hc4m; omega
    go_wp2_with (fail)
    refine ord_more (by simp [Ord.first]) hT4 ?_
    refine ordP_step _ (by simp only [List.getElem?_toArray, List.getElem?_cons_succ, List.getElem?_cons_zero]; rfl) ?_ ordP_none
    go_wp2_with (fail)
    refine ord_more (by simp [Ord.first]) hT4 ?_
    refine ordP_step _ (by simp only [List.getElem?_toArray, List.getElem?_cons_succ, List.getElem?_cons_zero]; rfl) ?_ ordP_none
    have hO04 : OwnB w4 w0.heap.size (.slice A0 0 c0') [] := (hO0.upd0 HV3.out).upd0 hW4
    have hR4 := hO4.rd
    have hB4 : w0.heap.size ≤ w4.heap.size := by have := HU0.out.size; have := HV3.out.size; have := hW4.size; omega
    refine append_rd rfl _ _ rfl w0.heap.size (.slice A0 0 c0') [] (by with_unfolding_all exact rfl) hO04 _ (marks80 d) (by with_unfolding_all exact rfl) hR4 (by rw [marks80_length]; have := LB.out; simp; omega) hB4 ?_
    intro v5 w5 hO5 _ hU5 hG5
    simp only [List.nil_append] at hO5 hG5
    rw [hb0] at hU5
    have hT5 := hT4.trans hU5
    go_wp2_with (fail)
    refine ord_more (by simp [Ord.first]) hT5 ?_
    refine ordP_step _ (by simp only [List.getElem?_toArray, List.getElem?_cons_succ, List.getElem?_cons_zero]; rfl) ?_ ordP_none
    go_wp2_with (fail)
    refine ord_last hT5 ?_
    show Exit.then _ _ Exit.normal _ _
    -- all that stands behind the region
    have hW5 : Upd p.h.ownBlock.toList w w5 := HV3.out.of0.trans hT5
    have hO5b : ∀ i, v5.ownBlock = some i → p.h.ownBlock = some i ∨ w3.heap.size ≤ i := fun i hi => by
      rcases hG5.block i hi with h | h
      · exact .inl (by rw [← hb0]; exact h)
      · exact .inr (by have := hW4.size; omega)
    obtain ⟨g5, c5, e5, hg5B, hg5l, hg5c, hg5m⟩ := hO5.at (by rw [marks80_length]; omega)
    rw [marks80_length, HLL.out] at e5 hg5c
    subst e5
    have hs3 : b5 < w3.heap.size ∧ b8 < w3.heap.size := ⟨lt_of_heap HKO.out, lt_of_heap HKP.out⟩
    have h53 : g5 ≠ b5 ∧ g5 ≠ b8 := by
      rcases hO5b g5 rfl with h | h
      · exact hl3 g5 h
      · omega
    have hko5 := hT5.heap HKO.out (fun hm => (hl3 b5 (by simpa using hm)).1 rfl)
    have hkp5 := hT5.heap HKP.out (fun hm => (hl3 b8 (by simpa using hm)).2 rfl)
    change w5.heap[b8]? = some (.cells #[.pointer (some ⟨p.D, 0, none⟩), p.a, p.h] 27 (0, 0)) at hkp5
    have hdig5 := HOK.out.dig.upd hW5 (fun hm => hhD (by simpa using hm))
    have hrow5 := own_upd HROW.out hW5 (fun i hi hm => by simp [Value.ownBlock] at hi; subst hi; exact hhg (by simpa using hm))
    have hall5 := HOK.out.all.upd hW5 (fun i hi hm => HHA.out i (by simpa using hm) hi)
    have hcur5 := hW5.heap HCUR.out (fun hm => hhg (by simpa using hm))
    have hDb : p.D ≠ b5 ∧ p.D ≠ b8 := by have := HOK.out.dig.lt; have := HL5.out; have := HL8.out; omega
    have hgb : g ≠ b5 ∧ g ≠ b8 := by have := lt_of_heap HCUR.out; have := HL5.out; have := HL8.out; omega
    have hg5D : g5 ≠ p.D := fun e => own_dig256 hO5 hdig5 (by simp [Value.ownBlock, e])
    have hg5g : g5 ≠ g := fun e => own_pair hO5 hcur5 (by simp [Value.ownBlock, e])
    have hDg := dig_pair hdig5 hcur5
    clear hU4 hT4 hW4 hc4 hc4m hc4i hc4j hO04 hR4 hB4 hO4 HS4 HMRK hU5 hG5 hT5
    have hne := HNE.out
    have HSS : Hid (∀ i ∈ p.D :: p.h.ownBlock.toList, w0.heap.size ≤ i) := fun i hi => by
      rcases List.mem_cons.1 hi with rfl | hi
      · exact HOK.out.old
      · exact (hhl i (by simpa using hi)).1
    have HAN : Hid (∀ i, p.a.ownBlock = some i → i ≠ b5 ∧ i ≠ b8 ∧ i ≠ p.D ∧ i ≠ g5 ∧ i ≠ g) := fun i hi => by
      have h1 := (HOK.out.all.lt i hi).2
      have h2 := HL5.out
      have h3 := HL8.out
      refine ⟨by omega, by omega, fun e => own_dig256 HOK.out.all HOK.out.dig (by rw [hi, e]), fun e => ?_, fun e => own_pair HOK.out.all HCUR.out (by rw [hi, e])⟩
      rcases hO5b g5 rfl with h | h
      · exact HHA.out g5 h (by rw [← e]; exact hi)
      · have := HV3.out.size; omega
    have HO5B : Hid (p.h.ownBlock = some g5 ∨ w.heap.size ≤ g5) := by
      rcases hO5b g5 rfl with h | h
      · exact .inl h
      · exact .inr (by have := HV3.out.size; omega)
    have G5S : Hid (∀ i ∈ [g5], i < w.heap.size → i ∈ p.D :: p.h.ownBlock.toList) := fun i hm hl => by
      have := List.mem_singleton.1 hm
      subst this
      rcases HO5B.out with h | h
      · exact List.mem_cons_of_mem _ (by simp [h])
      · omega
    have hV5 : Upd (p.D :: p.h.ownBlock.toList) w w5 := hW5.mono (fun i hm _ => List.mem_cons_of_mem _ hm)
    have cd5 : w5.cell? ⟨b5, 2, none⟩ = some (.slice Av L cv) := by rw [cell_of_row _ _ _ _ _ _ hko5]; rfl
    have h58a : g5 ≠ b5 := h53.1
    have h58b : g5 ≠ b8 := h53.2
    have hD5 : p.D ≠ b5 := hDb.1
    have hD8 : p.D ≠ b8 := hDb.2
    have hg_5 : g ≠ b5 := hgb.1
    have hg_8 : g ≠ b8 := hgb.2
    clear hW5 hO5b h53 hDb hgb
    have NEQ : Hid (b5 ≠ b8 ∧ g5 ≠ b5 ∧ g5 ≠ b8 ∧ p.D ≠ b5 ∧ p.D ≠ b8 ∧ g ≠ b5 ∧ g ≠ b8 ∧ g5 ≠ p.D ∧ g5 ≠ g ∧ p.D ≠ g) := ⟨hne, h58a, h58b, hD5, hD8, hg_5, hg_8, hg5D, hg5g, hDg⟩
    clear hne h58a h58b hD5 hD8 hg_5 hg_8 hg5D hg5g hDg hcur5 hcur
    go_wp2_with (with_reducible refine arm_store_at (by with_unfolding_all exact rfl) (by with_unfolding_all exact rfl) hkp5 (by simp) (by with_unfolding_all exact rfl) size_bytesv (by with_unfolding_all exact rfl) ?_)
    intro w6 hkp6 hX6 hz6
    change w6.heap[b8]? = some (.cells #[.pointer (some ⟨p.D, 0, none⟩), p.a, .slice (some ⟨g5, 0, none⟩) (L + 80) c5] 27 (0, 0)) at hkp6
    clear hkp5 cd5 hz6
    have hko6 := hX6.heap hko5 (fun hm => by have := NEQ.out; have := List.mem_singleton.1 hm; omega)
    have hdig6 := hdig5.upd hX6 (fun hm => by have := NEQ.out; have := List.mem_singleton.1 hm; omega)
    have hrow6 := own_upd hrow5 hX6 (fun i hi hm => by have := NEQ.out; have := List.mem_singleton.1 hm; simp [Value.ownBlock] at hi; omega)
    have hall6 := hall5.upd hX6 (fun i hi hm => by have := HAN.out i hi; have := List.mem_singleton.1 hm; omega)
    have hO6 := hO5.upd hX6 (fun i hi hm => by have := NEQ.out; have := List.mem_singleton.1 hm; simp [Value.ownBlock] at hi; omega)
    have hV6 := hV5.trans' hX6 (fun i hm hl => by have := HL5.out; have := HL8.out; have := List.mem_singleton.1 hm; omega)
    clear hko5 hdig5 hrow5 hall5 hO5 hV5 hX6
    have cd6 : w6.cell? ⟨b5, 2, none⟩ = some (.slice Av L cv) := by rw [cell_of_row _ _ _ _ _ _ hko6]; rfl
    have cD6 : w6.cell? ⟨b8, 0, none⟩ = some (.pointer (some ⟨p.D, 0, none⟩)) := by rw [cell_of_row _ _ _ _ _ _ hkp6]; rfl
    have lc1 : (L : Int) ≤ (c5 : Int) := by omega
    have lc2 : (c5 : Int) ≤ 9223372036854775807 := by unfold maxLen at hg5m; omega
    have lc3 : L ≤ L + 80 := by omega
    have HC5 : Hid (L + 80 ≤ c5 ∧ c5 ≤ maxLen) := ⟨hg5c, hg5m⟩
    have HGB5 : Hid (w0.heap.size ≤ g5) := hg5B
    clear hg5c hg5m hg5B hg5l
    go_upto_region 7 with (fail)
    go_wp2_with (fail)
    have hU06 : Upd [] w0 w6 := HU0.out.trans' hV6 (fun i hm hl => by have := HSS.out i hm; omega)
    have hRG : RdB w6 (.slice (some ⟨g5, 0, none⟩) L c5) d := by
      have hb : Bytes w6 g5 0 d := by
        have := (hO6.bytes).take d.length
        rwa [marks80, List.take_left] at this
      rw [← HLL.out]
      exact RdB.mk (by have := HC5.out; have := HLL.out; omega) HC5.out.2 hb
    have hcl := HG.out.lt
    refine (write256 _ p.D _ p.m d hdig6 hRG (fun _ => by have := NEQ.out; simp [Value.ownBlock]; omega) (by have := HMK.out; have := HMM.out; have := LB.out; omega) (by have := LB.out; omega) (HG.out.upd hU06 (by simp)) (by have := HOK.out.old; omega)).mono ?_
    rintro e w7 ⟨⟨y7, rfl⟩, hdig7, hU7⟩
    clear hdig6 hRG hU06 hcl cd6 cD6
    have hko7 := hU7.heap hko6 (fun hm => by have := NEQ.out; have := List.mem_singleton.1 hm; omega)
    have hkp7 := hU7.heap hkp6 (fun hm => by have := NEQ.out; have := List.mem_singleton.1 hm; omega)
    have hrow7 := own_upd hrow6 hU7 (fun i hi hm => by have := NEQ.out; have := List.mem_singleton.1 hm; simp [Value.ownBlock] at hi; omega)
    have hall7 := hall6.upd hU7 (fun i hi hm => by have := HAN.out i hi; have := List.mem_singleton.1 hm; omega)
    have hO7 := hO6.upd hU7 (fun i hi hm => by have := NEQ.out; have := List.mem_singleton.1 hm; simp [Value.ownBlock] at hi; omega)
    have hV7 := hV6.trans' hU7 (fun i hm _ => by rw [List.mem_singleton.1 hm]; exact List.mem_cons_self)
    clear hko6 hkp6 hrow6 hall6 hO6 hV6 hU7
    have cd7 : w7.cell? ⟨b5, 2, none⟩ = some (.slice Av L cv) := by rw [cell_of_row _ _ _ _ _ _ hko7]; rfl
    go_upto_region 8 with (fail)
    go_wp2_with (fail)
    have hU07 : Upd [] w0 w7 := HU0.out.trans' hV7 (fun i hm hl => by have := HSS.out i hm; omega)
    have hLF := left02 w7 _ d g5 0 c5 (HV.out.upd0 hU07) hO7.bytes (by have := HC5.out; have := HLL.out; omega) (by have := LB.out; omega)
    rw [HLL.out] at hLF
    refine hLF.mono ?_
    rintro e w8 ⟨rfl, nq, hw8⟩
    have hU8 : Upd [] w7 w8 := by rw [hw8]; exact (Upd.refl _ _).drewN nq
    clear hLF hU07 hw8 cd7
    have hko8 := hU8.heap hko7 (by simp)
    have hkp8 := hU8.heap hkp7 (by simp)
    have hdig8 := hdig7.upd hU8 (by simp)
    have hrow8 := own_upd hrow7 hU8 (by simp)
    have hall8 := hall7.upd hU8 (by simp)
    have hO8 := hO7.upd hU8 (by simp)
    have hV8 := hV7.trans0 hU8
    clear hko7 hkp7 hdig7 hrow7 hall7 hO7 hV7 hU8
    go_upto_region 10 with (fail)
    go_wp2_with (fail)
    have HO8 := Lib.hid hO8
    have HKO8 := Lib.hid hko8
    have HKP8 := Lib.hid hkp8
    have HDIG8 := Lib.hid hdig8
    have HROW8 := Lib.hid hrow8
    have HALL8 := Lib.hid hall8
    have HV8 := Lib.hid hV8
    clear hO8 hko8 hkp8 hdig8 hrow8 hall8 hV8
    have LL : Hid (L ≤ 1048576) := by show L ≤ 1048576; have := LB.out; have := HLL.out; omega
    go_loopw [10] (fun iv wr => ∃ (j : Nat) (q : List (BitVec 8)), j ≤ L ∧ iv = .int .i64 j ∧ q.length = L + 80 ∧ OwnB wr w0.heap.size (.slice (some ⟨g5, 0, none⟩) (L + 80) c5) q ∧ Upd [g5] w8 wr) (fun iv _ => L - (intOf iv).toNat)
    case atStart => exact ⟨0, _, by omega, rfl, by rw [marks80_length, HLL.out], HO8.out, Upd.refl _ _⟩
    case round =>
      obtain ⟨j, q2, hj, rfl, hql, hOq, hUq⟩ := hrel
      by_cases h : j < L
      · have jl : (j : Int) < (L : Int) := by omega
        have hjq : j < q2.length := by omega
        have hfr := hOq.frozen j hjq
        have hce := hOq.cell j hjq
        have hO2 := hOq.set j hjq 119
        have hsz := hUq.size
        have HQL := Lib.hid hql
        clear hql
        go_wp2_with (fail)
        go_roundw
        case rel => exact ⟨j + 1, q2.set j 119, by omega, by go_num, by have := HQL.out; simp; omega, hO2, hUq.setCell _ _ (by simp)⟩
        case measure => simp [intOf]; omega
      · have hjL : L = j := by omega
        subst hjL
        have jl : ¬ (L : Int) < (L : Int) := by omega
        have hko8 := HKO8.out
        have hkp8 := HKP8.out
        have hdig8 := HDIG8.out
        have hrow8 := HROW8.out
        have hall8 := HALL8.out
        have hV8 := HV8.out
        obtain ⟨w9, hw9⟩ : ∃ W, wr = W := ⟨_, rfl⟩
        rw [hw9] at hOq hUq ⊢
        have hO9 := hOq
        clear hOq hj h HKO8 HKP8 HDIG8 HROW8 HALL8 HV8 HO8 hw9
        have hko9 := hUq.heap hko8 (fun hm => by have := NEQ.out; have := List.mem_singleton.1 hm; omega)
        have hkp9 := hUq.heap hkp8 (fun hm => by have := NEQ.out; have := List.mem_singleton.1 hm; omega)
        have hdig9 := hdig8.upd hUq (fun hm => by have := NEQ.out; have := List.mem_singleton.1 hm; omega)
        have hrow9 := own_upd hrow8 hUq (fun i hi hm => by have := NEQ.out; have := List.mem_singleton.1 hm; simp [Value.ownBlock] at hi; omega)
        have hall9 := hall8.upd hUq (fun i hi hm => by have := HAN.out i hi; have := List.mem_singleton.1 hm; omega)
        have hV9 := hV8.trans' hUq G5S.out
        clear hko8 hkp8 hdig8 hrow8 hall8 hV8 hUq
        have cA9 : w9.cell? ⟨b8, 1, none⟩ = some p.a := by rw [cell_of_row _ _ _ _ _ _ hkp9]; rfl
        have HALL9 := Lib.hid hall9
        have HHL9 : Hid (b5 < w9.heap.size ∧ b8 < w9.heap.size ∧ p.D < w9.heap.size ∧ g < w9.heap.size ∧ g5 < w9.heap.size ∧ (∀ i, p.a.ownBlock = some i → i < w9.heap.size) ∧ w0.heap.size ≤ w9.heap.size) := ⟨lt_of_heap hko9, lt_of_heap hkp9, hdig9.lt, (own_block hrow9 g rfl).2, (hO9.lt g5 rfl).2, fun i hi => (hall9.lt i hi).2, by have := (hO9.lt g5 rfl).1; have := (hO9.lt g5 rfl).2; omega⟩
        go_upto_region 15 with (fail)
        try go_simp
        go_wp2_with (at_builtin; refine append_rd rfl _ _ rfl w9.heap.size (.slice none 0 0) [] (by with_unfolding_all exact rfl) (OwnB.nil _ _) _ p.m (by with_unfolding_all exact rfl) HALL9.out.rd (by have := HMK.out; have := HMM.out; simp; omega) (Nat.le_refl _) ?_)
        intro v10 w10 hN10 _ hU10 _
        try simp only [List.nil_append] at hN10
        have hU10' : Upd [] w9 w10 := hU10.mono (by simp [Value.ownBlock])
        have hs910 : w9.heap.size ≤ w10.heap.size := hU10'.size
        have HS910 := Lib.hid hs910
        clear hU10 cA9 HALL9 hs910
        have hko10 := hU10'.heap hko9 (by simp)
        have hkp10 := hU10'.heap hkp9 (by simp)
        have hdig10 := hdig9.upd hU10' (by simp)
        have hrow10 := own_upd hrow9 hU10' (by simp)
        have hall10 := hall9.upd hU10' (by simp)
        have hO10 := hO9.upd hU10' (by simp)
        have hV10 := hV9.trans0 hU10'
        clear hko9 hkp9 hdig9 hrow9 hall9 hO9 hV9 hU10'
        have cd10 : w10.cell? ⟨b5, 2, none⟩ = some (.slice Av L cv) := by rw [cell_of_row _ _ _ _ _ _ hko10]; rfl
        have hU010 : Upd [] w0 w10 := HU0.out.trans' hV10 (fun i hm hl => by have := HSS.out i hm; omega)
        have hRd := HV.out.upd0 hU010
        rw [HLL.out] at hRd
        have HRD := Lib.hid hRd
        have HN10 := Lib.hid hN10
        have hl10 : ∀ i ∈ v10.ownBlock.toList, w9.heap.size ≤ i := fun i hi => (hN10.lt i (by simpa using hi)).1
        have HL10 := Lib.hid hl10
        clear hU010 hRd hN10 hl10
        go_upto_region 16 with (fail)
        try go_simp
        go_wp2_with (at_builtin; refine append_rd rfl _ _ rfl w9.heap.size v10 p.m (by with_unfolding_all exact rfl) HN10.out _ d (by with_unfolding_all exact rfl) HRD.out (by have := HMK.out; have := HMM.out; have := LB.out; omega) HS910.out ?_)
        intro v11 w11 hO11 _ hU11 hG11
        have hko11 := hU11.heap hko10 (fun hm => by have := HL10.out _ hm; have := HHL9.out; omega)
        have hkp11 := hU11.heap hkp10 (fun hm => by have := HL10.out _ hm; have := HHL9.out; omega)
        have hdig11 := hdig10.upd hU11 (fun hm => by have := HL10.out _ hm; have := HHL9.out; omega)
        have hrow11 := own_upd hrow10 hU11 (fun i hi hm => by have := HL10.out _ hm; have := HHL9.out; simp [Value.ownBlock] at hi; omega)
        have hO_11 := hO10.upd hU11 (fun i hi hm => by have := HL10.out _ hm; have := HHL9.out; simp [Value.ownBlock] at hi; omega)
        have hsw9 : w.heap.size ≤ w9.heap.size := by have := HL5.out; have := HHL9.out; omega
        have hV11 := hV10.trans' hU11 (fun i hm hl => by have := HL10.out _ hm; omega)
        have hl11 : ∀ i, v11.ownBlock = some i → w9.heap.size ≤ i := fun i hi => (hO11.lt i hi).1
        clear hko10 hkp10 hdig10 hrow10 hO10 hV10 hU11 hG11 cd10 HRD hall10
        obtain ⟨A11, c11, e11⟩ := hO11.isSlice
        have hv11c : v11.cells = #[v11] := by rw [e11]; rfl
        have hv11o : v11.oneCell' = true := by rw [e11]; rfl
        clear e11
        go_upto_region 17 with (fail)
        try go_simp
        go_wp2_with (with_reducible refine arm_store_at (by with_unfolding_all exact rfl) (by with_unfolding_all exact rfl) hkp11 (by simp) hv11c size_bytesv hv11o ?_)
        intro w12 hkp12 hX12 hz12
        change w12.heap[b8]? = some (.cells #[.pointer (some ⟨p.D, 0, none⟩), v11, .slice (some ⟨g5, 0, none⟩) (L + 80) c5] 27 (0, 0)) at hkp12
        have hdig12 := hdig11.upd hX12 (fun hm => by have := NEQ.out; have := List.mem_singleton.1 hm; omega)
        have hrow12 := own_upd hrow11 hX12 (fun i hi hm => by have := NEQ.out; have := List.mem_singleton.1 hm; simp [Value.ownBlock] at hi; omega)
        have hO12 := hO_11.upd hX12 (fun i hi hm => by have := NEQ.out; have := List.mem_singleton.1 hm; simp [Value.ownBlock] at hi; omega)
        have hA12 := hO11.upd hX12 (fun i hi hm => by have := hl11 i hi; have := HHL9.out; have := List.mem_singleton.1 hm; omega)
        have hV12 := hV11.trans' hX12 (fun i hm hl => by have := HL8.out; have := List.mem_singleton.1 hm; omega)
        clear hkp11 hdig11 hrow11 hO_11 hO11 hV11 hX12 hz12 hko11
        have hdc : (#[.pointer (some ⟨p.D, 0, none⟩), v11, .slice (some ⟨g5, 0, none⟩) (L + 80) c5] : Array Value).all (·.oneCell') = true := by
          rw [Array.all_eq_true]
          intro i hi
          match i, hi with
          | 0, _ => rfl
          | 1, _ => exact hv11o
          | 2, _ => rfl
        obtain ⟨hthere, hset⟩ := own_setN hrow12 k (by have := HK.out; have := HN.out; omega) [.pointer (some ⟨p.D, 0, none⟩), v11, .slice (some ⟨g5, 0, none⟩) (L + 80) c5] rfl
        have hs12 : (Tryd.prog.info? 27).map (·.size) = some (#[.pointer (some ⟨p.D, 0, none⟩), v11, .slice (some ⟨g5, 0, none⟩) (L + 80) c5] : Array Value).size := size_pair
        have hth12 : w12.there g (k * 3) (#[.pointer (some ⟨p.D, 0, none⟩), v11, .slice (some ⟨g5, 0, none⟩) (L + 80) c5] : Array Value).size := hthere
        have HSET := Lib.hid hset
        clear hthere
        have HROW12 := Lib.hid hrow12
        have HDIG12 := Lib.hid hdig12
        have HO12 := Lib.hid hO12
        have HA12 := Lib.hid hA12
        have HV12 := Lib.hid hV12
        have HL11 := Lib.hid hl11
        have HSW9 := Lib.hid hsw9
        clear hset hrow12 hdig12 hO12 hA12 hV12 hl11 hsw9 hv11c hv11o
        go_upto_region 32 with (fail)
        try go_simp
        go_wp2_with (first
          | (with_reducible refine arm_load (by with_unfolding_all exact rfl) hkp12 Tryd.underlying27 (by with_unfolding_all exact rfl) hs12 ?_)
          | (with_reducible refine arm_store_mid (by with_unfolding_all exact rfl) (by with_unfolding_all exact rfl) hth12 hs12 hdc ?_))
        refine bodyPost_ret (results_tmp2 rfl _ _ _) rfl ?_
        exact step_end ⟨p.D, v11, .slice (some ⟨g5, 0, none⟩) (L + 80) c5, p.m ++ d⟩ HU0.out HP.out HPK.out HN.out HH4.out HM.out HROW12.out HV12.out ⟨HDIG12.out, HOK.out.old, HA12.out.mono (fun i hi => by have := HL11.out i hi; have := HHL9.out; omega), _, HO12.out⟩ rfl
          (fun j hj => .inr (by have := HL11.out j hj; have := HSW9.out; omega)) (fun j hj => by simp only [Value.ownBlock, Option.some.injEq] at hj; subst hj; exact HO5B.out) (fun j hj h2 => by simp only [Value.ownBlock, Option.some.injEq] at hj; have := HL11.out j h2; have := HHL9.out; omega)
          (by have := HMK.out; have := LB.out; simp; omega) rfl
  have q1 : (kind == 1) = false := by simpa using hk1
  by_cases hk2 : kind = 2
  · subst hk2
    have HQ0 : Hid (∀ W, Upd [] w3 W → W.cell? ⟨b8, 0, none⟩ = some (.pointer (some ⟨p.D, 0, none⟩))) := fun W hW => by
      have h' := hW.heap HKP.out (by simp)
      rw [cell_of_row _ _ _ _ _ _ h']; rfl
    obtain ⟨Aa, ca, ea⟩ := HOK.out.all.isSlice
    have HQ1 : Hid (∀ W, Upd [] w3 W → W.cell? ⟨b8, 1, none⟩ = some (.slice Aa p.m.length ca)) := fun W hW => by
      have h' := hW.heap HKP.out (by simp)
      rw [cell_of_row _ _ _ _ _ _ h', ← ea]; rfl
    have HRA : Hid (∀ W, Upd [] w3 W → RdB W (.slice Aa p.m.length ca) p.m) := fun W hW => by rw [← ea]; exact (HOK.out.all.upd0 (HV3.out.trans hW)).rd
    have HDA : Hid (∀ W, Upd [] w3 W → DigOf256 W p.D p.m) := fun W hW => HOK.out.dig.upd (HV3.out.trans hW) (by simp)
    have HGA : Hid (∀ W, Upd [] w3 W → Gl256 W ∧ GlFirst256 W) := fun W hW => ⟨HG.out.upd ((HU0.out.trans HV3.out).trans hW) (by simp), HF.out.upd ((HU0.out.trans HV3.out).trans hW) (by simp)⟩
    have HEA := Lib.hid ea
    clear ea
    obtain ⟨H, hH⟩ : ∃ H, sha256 p.m = H := ⟨_, rfl⟩
    have hHl : H.length = 32 := by rw [← hH]; exact sha256_length _
    have HS1 : Hid (∀ W, Upd [] w3 W → Calls Tryd.prog 21 #[.pointer (some ⟨p.D, 0, none⟩)] W fun e w' => e = .returned (.agg (H.map U8).toArray) ∧ Upd [] W w') := fun W hW => by
      rw [← hH]; exact digsum256 W p.D p.m (HDA.out W hW) (by have := HMK.out; have := HMM.out; omega) (HGA.out W hW).1
    have HS2 : Hid (∀ W, Upd [] w3 W → Calls Tryd.prog 22 #[.slice Aa p.m.length ca] W fun e w' => e = .returned (.agg (H.map U8).toArray) ∧ Upd [] W w') := fun W hW => by
      rw [← hH]; exact refsum256 W _ p.m (HRA.out W hW) (by have := HMK.out; have := HMM.out; omega)
    have hq := eql_h32 H H hHl hHl
    rw [show (H == H) = true by simp] at hq
    have hgd := guard_h32
    obtain ⟨cH, hcH⟩ : ∃ c, (H.map U8).toArray = c := ⟨_, rfl⟩
    rw [hcH] at HS1 HS2 hq
    clear hcH hHl hH
    go_upto_region 19 with (fail)
    try go_simp
    refine wp_region_quiet_all (Upd [] w3) (by kernel_rfl) (by kernel_rfl) (Upd.refl _ _).drew ?_
    refine wpQuiet_step (fun K hK => ?_)
    go_simp
    refine ⟨_, fun _ _ => rfl, hK _ ?_⟩
    clear hK K
    repeat (first
      | go_big_quiet_skip
      | (refine wpQuiet_valK rfl (quiet_of_yields (yields_cell (p := ⟨b8, 0, none⟩) rfl HQ0.out Tryd.underlying23 rfl)) (fun K hK => ?_); go_simp; refine hK _ ?_; clear hK K)
      | (refine wpQuiet_valK rfl (quiet_of_yields (yields_cell (p := ⟨b8, 1, none⟩) rfl HQ1.out Tryd.underlying25 rfl)) (fun K hK => ?_); go_simp; refine hK _ ?_; clear hK K)
      | go_big_quiet_step ((intro hw2; first
        | rfl
        | ((with_reducible refine (HS1.out _ hw2).mono ?_); exact fun e w' h => ⟨h.1, hw2.trans h.2⟩)
        | ((with_reducible refine (HS2.out _ hw2).mono ?_); exact fun e w' h => ⟨h.1, hw2.trans h.2⟩)
        )))
    refine wpQuiet_nil ?_
    intro w4 hU4
    go_wp2_with (fail)
    refine bodyPost_ret (results_tmp2 rfl _ _ _) rfl ?_
    exact step_same HU0.out HP.out HN.out HH4.out HM.out (HV3.out.trans hU4) rfl
  have q2 : (kind == 2) = false := by simpa using hk2
  by_cases hk3 : kind = 3
  · subst hk3
    have HQ0 : Hid (∀ W, Upd [] w3 W → W.cell? ⟨b8, 0, none⟩ = some (.pointer (some ⟨p.D, 0, none⟩))) := fun W hW => by
      have h' := hW.heap HKP.out (by simp)
      rw [cell_of_row _ _ _ _ _ _ h']; rfl
    obtain ⟨Aa, ca, ea⟩ := HOK.out.all.isSlice
    have HQ1 : Hid (∀ W, Upd [] w3 W → W.cell? ⟨b8, 1, none⟩ = some (.slice Aa p.m.length ca)) := fun W hW => by
      have h' := hW.heap HKP.out (by simp)
      rw [cell_of_row _ _ _ _ _ _ h', ← ea]; rfl
    have HRA : Hid (∀ W, Upd [] w3 W → RdB W (.slice Aa p.m.length ca) p.m) := fun W hW => by rw [← ea]; exact (HOK.out.all.upd0 (HV3.out.trans hW)).rd
    have HDA : Hid (∀ W, Upd [] w3 W → DigOf256 W p.D p.m) := fun W hW => HOK.out.dig.upd (HV3.out.trans hW) (by simp)
    have HGA : Hid (∀ W, Upd [] w3 W → Gl256 W ∧ GlFirst256 W) := fun W hW => ⟨HG.out.upd ((HU0.out.trans HV3.out).trans hW) (by simp), HF.out.upd ((HU0.out.trans HV3.out).trans hW) (by simp)⟩
    have HEA := Lib.hid ea
    clear ea
    obtain ⟨N3, hN3⟩ : ∃ N, BitVec.ofNat 64 p.m.length = N := ⟨_, rfl⟩
    have HS1 : Hid (∀ W, Upd [] w3 W → Calls Tryd.prog 23 #[.pointer (some ⟨p.D, 0, none⟩)] W fun e w' => e = .returned (U64 (BitVec.ofInt 64 (p.m.length : Int))) ∧ Upd [] W w') := fun W hW => by
      obtain ⟨s, r, hd, _⟩ := HDA.out W hW
      rw [ofInt_nat]
      exact (len256 W p.D s r _ hd).mono (fun e w' h => ⟨h.1, by rw [← h.2]; exact Upd.refl _ _⟩)
    clear hN3
    go_upto_region 21 with (fail)
    try go_simp
    refine wp_region_quiet_all (Upd [] w3) (by kernel_rfl) (by kernel_rfl) (Upd.refl _ _).drew ?_
    refine wpQuiet_step (fun K hK => ?_)
    go_simp
    refine ⟨_, fun _ _ => rfl, hK _ ?_⟩
    clear hK K
    repeat (first
      | go_big_quiet_skip
      | (refine wpQuiet_valK rfl (quiet_of_yields (yields_cell (p := ⟨b8, 0, none⟩) rfl HQ0.out Tryd.underlying23 rfl)) (fun K hK => ?_); go_simp; refine hK _ ?_; clear hK K)
      | (refine wpQuiet_valK rfl (quiet_of_yields (yields_cell (p := ⟨b8, 1, none⟩) rfl HQ1.out Tryd.underlying25 rfl)) (fun K hK => ?_); go_simp; refine hK _ ?_; clear hK K)
      | go_big_quiet_step ((intro hw2; first
        | rfl
        | ((with_reducible refine (HS1.out _ hw2).mono ?_); exact fun e w' h => ⟨h.1, hw2.trans h.2⟩)
        )))
    refine wpQuiet_nil ?_
    intro w4 hU4
    go_wp2_with (fail)
    refine bodyPost_ret (results_tmp2 rfl _ _ _) rfl ?_
    exact step_same HU0.out HP.out HN.out HH4.out HM.out (HV3.out.trans hU4) rfl
  have q3 : (kind == 3) = false := by simpa using hk3
  by_cases hk4 : kind = 4
  · subst hk4
    have HQ0 : Hid (∀ W, Upd [] w3 W → W.cell? ⟨b8, 0, none⟩ = some (.pointer (some ⟨p.D, 0, none⟩))) := fun W hW => by
      have h' := hW.heap HKP.out (by simp)
      rw [cell_of_row _ _ _ _ _ _ h']; rfl
    obtain ⟨Aa, ca, ea⟩ := HOK.out.all.isSlice
    have HQ1 : Hid (∀ W, Upd [] w3 W → W.cell? ⟨b8, 1, none⟩ = some (.slice Aa p.m.length ca)) := fun W hW => by
      have h' := hW.heap HKP.out (by simp)
      rw [cell_of_row _ _ _ _ _ _ h', ← ea]; rfl
    have HRA : Hid (∀ W, Upd [] w3 W → RdB W (.slice Aa p.m.length ca) p.m) := fun W hW => by rw [← ea]; exact (HOK.out.all.upd0 (HV3.out.trans hW)).rd
    have HDA : Hid (∀ W, Upd [] w3 W → DigOf256 W p.D p.m) := fun W hW => HOK.out.dig.upd (HV3.out.trans hW) (by simp)
    have HGA : Hid (∀ W, Upd [] w3 W → Gl256 W ∧ GlFirst256 W) := fun W hW => ⟨HG.out.upd ((HU0.out.trans HV3.out).trans hW) (by simp), HF.out.upd ((HU0.out.trans HV3.out).trans hW) (by simp)⟩
    have HEA := Lib.hid ea
    clear ea
    have hl8 := HL8.out
    have c0r := HQ0.out w3 (Upd.refl _ _)
    go_upto_region 23 with (fail)
    try go_simp
    go_wp2_with (fail)
    have hrs : Calls Tryd.prog 24 #[.pointer (some ⟨p.D, 0, none⟩)] w3 fun e w' => ∃ E, e = .returned (.pointer (some ⟨E, 0, none⟩)) ∧ w3.heap.size ≤ E ∧ DigOf256 w' E p.m ∧ Upd [] w3 w' := by
      obtain ⟨s, r, hd, hh⟩ := HDA.out w3 (Upd.refl _ _)
      exact (clone256 w3 p.D s r _ hd).mono (fun e w' h => ⟨_, h.1, Nat.le_refl _, ⟨s, r, h.2.1, hh⟩, h.2.2⟩)
    refine hrs.mono ?_
    rintro e w4 ⟨E, rfl, hE, hdig4, hU4⟩
    clear hrs c0r
    have hV4 := HV3.out.trans hU4
    have hEw : w.heap.size ≤ E := by have := HV3.out.size; omega
    have HDIG4 := Lib.hid hdig4
    have HV4 := Lib.hid hV4
    have HEW : Hid (w.heap.size ≤ E) := hEw
    have c14 : w4.cell? ⟨b8, 1, none⟩ = some (.slice Aa p.m.length ca) := HQ1.out w4 hU4
    have HU4 := Lib.hid hU4
    clear hdig4 hV4 hEw hE hU4
    by_cases hn4 : n < 4
    · have n4' : (n : Int) < 4 := by omega
      have hbt := built_pair E Aa p.m.length ca
      have hrow4 := own_upd HROW.out HV4.out (by simp)
      have HROW4 := Lib.hid hrow4
      clear hrow4
      go_upto_region 27 with (fail)
      try go_simp
      go_wp2_with (first
        | (with_reducible refine arm_build2 (by with_unfolding_all exact rfl) (by with_unfolding_all exact rfl) hbt ?_)
        | (with_reducible refine bsP (l := [Value.pointer (some ⟨E, 0, none⟩), .slice Aa p.m.length ca, .slice none 0 0]) (cs := #[Value.pointer (some ⟨E, 0, none⟩), .slice Aa p.m.length ca, .slice none 0 0]) (by with_unfolding_all exact rfl) (by with_unfolding_all exact rfl) (by with_unfolding_all exact rfl) ?_))
      intro g5 w5 hg5 hk5 hU5
      have HROW5 : Hid (w5.ownsRow w0.heap.size 27 3 (.slice (some ⟨g, 0, none⟩) n cap) n (dCells ps)) := own_upd HROW4.out hU5 (by simp)
      have HB5 : Hid (w0.heap.size ≤ w5.heap.size) := by show w0.heap.size ≤ w5.heap.size; have := HU0.out.size; have := HV4.out.size; have := hU5.size; omega
      have HK5 : Hid (w5.heap[g5]? = some (.cells [Value.pointer (some ⟨E, 0, none⟩), .slice Aa p.m.length ca, .slice none 0 0].toArray 27 (0, 0))) := hk5
      obtain ⟨i, hi, ⟨z, hz, hzc⟩, hsz, hby⟩ := info_pair
      clear hg5 hk5
      refine arm_append1w Tryd.underlying28 hi hz hsz hby hzc (by omega) (by with_unfolding_all exact rfl) (by with_unfolding_all exact rfl) HROW5.out HK5.out (by with_unfolding_all exact rfl) (pair_one _ _ _ _) (by simp [maxLen]; omega) (by omega) HB5.out ?_
      intro v6 w6 hrow6 hU6 hb6
      have HROW6 := Lib.hid hrow6
      have HU5 := Lib.hid hU5
      have HU6 := Lib.hid hU6
      clear hrow6 hU5 hU6 hb6 hi hz hsz hby hzc
      go_wp2_with (fail)
      refine bodyPost_ret (results_tmp2 rfl _ _ _) rfl ?_
      exact step_twin E HU0.out HP.out HPK.out HN.out (by omega) HM.out HEA.out HV4.out HU5.out HU6.out HROW6.out HDIG4.out HEW.out rfl
    · have n4' : ¬ (n : Int) < 4 := by omega
      go_upto_region 28 with (fail)
      try go_simp
      go_wp2_with (fail)
      refine bodyPost_ret (results_tmp2 rfl _ _ _) rfl ?_
      exact step_same HU0.out HP.out HN.out HH4.out HM.out HV4.out rfl
  have q4 : (kind == 4) = false := by simpa using hk4
  by_cases hk5 : kind = 5
  · subst hk5
    have HQ0 : Hid (∀ W, Upd [] w3 W → W.cell? ⟨b8, 0, none⟩ = some (.pointer (some ⟨p.D, 0, none⟩))) := fun W hW => by
      have h' := hW.heap HKP.out (by simp)
      rw [cell_of_row _ _ _ _ _ _ h']; rfl
    obtain ⟨Aa, ca, ea⟩ := HOK.out.all.isSlice
    have HQ1 : Hid (∀ W, Upd [] w3 W → W.cell? ⟨b8, 1, none⟩ = some (.slice Aa p.m.length ca)) := fun W hW => by
      have h' := hW.heap HKP.out (by simp)
      rw [cell_of_row _ _ _ _ _ _ h', ← ea]; rfl
    have HRA : Hid (∀ W, Upd [] w3 W → RdB W (.slice Aa p.m.length ca) p.m) := fun W hW => by rw [← ea]; exact (HOK.out.all.upd0 (HV3.out.trans hW)).rd
    have HDA : Hid (∀ W, Upd [] w3 W → DigOf256 W p.D p.m) := fun W hW => HOK.out.dig.upd (HV3.out.trans hW) (by simp)
    have HGA : Hid (∀ W, Upd [] w3 W → Gl256 W ∧ GlFirst256 W) := fun W hW => ⟨HG.out.upd ((HU0.out.trans HV3.out).trans hW) (by simp), HF.out.upd ((HU0.out.trans HV3.out).trans hW) (by simp)⟩
    have HEA := Lib.hid ea
    clear ea
    have hl8 := HL8.out
    have c0r := HQ0.out w3 (Upd.refl _ _)
    go_upto_region 30 with (fail)
    try go_simp
    go_wp2_with (fail)
    have hrs : Calls Tryd.prog 25 #[.pointer (some ⟨p.D, 0, none⟩)] w3 fun e w' => (∃ v, e = .returned v) ∧ DigOf256 w' p.D [] ∧ Upd [p.D] w3 w' := by
      obtain ⟨s, r, hd, _⟩ := HDA.out w3 (Upd.refl _ _)
      exact (reset256 w3 p.D s r _ hd (HGA.out w3 (Upd.refl _ _)).2).mono (fun e w' h => ⟨h.1, DigOf256.new h.2.1, h.2.2⟩)
    refine hrs.mono ?_
    rintro e w4 ⟨⟨y4, rfl⟩, hdig4, hU4⟩
    have hDl := HOK.out.dig.lt
    have hkp4 := hU4.heap HKP.out (fun hm => by have := List.mem_singleton.1 hm; omega)
    change w4.heap[b8]? = some (.cells #[.pointer (some ⟨p.D, 0, none⟩), p.a, p.h] 27 (0, 0)) at hkp4
    clear hrs c0r
    go_upto_region 31 with (fail)
    try go_simp
    go_wp2_with (with_reducible refine arm_store_at (by with_unfolding_all exact rfl) (by with_unfolding_all exact rfl) hkp4 (by simp) (by with_unfolding_all exact rfl) size_bytesv (by with_unfolding_all exact rfl) ?_)
    intro w5 hkp5 hX5 hz5
    change w5.heap[b8]? = some (.cells #[.pointer (some ⟨p.D, 0, none⟩), .slice none 0 0, p.h] 27 (0, 0)) at hkp5
    have hdig5 := hdig4.upd hX5 (fun hm => by have := List.mem_singleton.1 hm; omega)
    have hV5 : Upd (p.D :: p.h.ownBlock.toList) w w5 := (HV3.out.of0.trans' hU4 (fun i hm _ => by rw [List.mem_singleton.1 hm]; exact List.mem_cons_self)).trans' hX5 (fun i hm hl => by have := List.mem_singleton.1 hm; omega)
    obtain ⟨q, hq⟩ := HOK.out.hand
    have hrow5 := own_upd (own_upd (own_upd HROW.out HV3.out (by simp)) hU4 (fun i hi hm => by simp [Value.ownBlock] at hi; subst hi; exact dig_pair HOK.out.dig HCUR.out (by rw [List.mem_singleton.1 hm]))) hX5 (fun i hi hm => by simp [Value.ownBlock] at hi; have := List.mem_singleton.1 hm; have := lt_of_heap HCUR.out; omega)
    have hO5 := ((hq.upd0 HV3.out).upd hU4 (fun i hi hm => own_dig256 hq HOK.out.dig (by rw [hi, List.mem_singleton.1 hm]))).upd hX5 (fun i hi hm => by have := (hq.lt i hi).2; have := List.mem_singleton.1 hm; omega)
    obtain ⟨Ah, ch, eh⟩ := hq.isSlice
    have hdc : (#[.pointer (some ⟨p.D, 0, none⟩), .slice none 0 0, p.h] : Array Value).all (·.oneCell') = true := by
      rw [Array.all_eq_true]
      intro i hi
      match i, hi with
      | 0, _ => rfl
      | 1, _ => rfl
      | 2, _ => show p.h.oneCell' = true; rw [eh]; rfl
    obtain ⟨hthere, hset⟩ := own_setN hrow5 k (by have := HK.out; have := HN.out; omega) [.pointer (some ⟨p.D, 0, none⟩), .slice none 0 0, p.h] rfl
    have hs12 : (Tryd.prog.info? 27).map (·.size) = some (#[.pointer (some ⟨p.D, 0, none⟩), .slice none 0 0, p.h] : Array Value).size := size_pair
    have hth12 : w5.there g (k * 3) (#[.pointer (some ⟨p.D, 0, none⟩), .slice none 0 0, p.h] : Array Value).size := hthere
    have HROW5 := Lib.hid hrow5
    have HDIG5 := Lib.hid hdig5
    have HO5 := Lib.hid hO5
    have HV5 := Lib.hid hV5
    clear hrow5 hdig5 hO5 hV5 hset hthere eh hX5 hz5 hkp4 hU4 hdig4 hDl hl8
    go_upto_region 32 with (fail)
    try go_simp
    go_wp2_with (first
      | (with_reducible refine arm_load (by with_unfolding_all exact rfl) hkp5 Tryd.underlying27 (by with_unfolding_all exact rfl) hs12 ?_)
      | (with_reducible refine arm_store_mid (by with_unfolding_all exact rfl) (by with_unfolding_all exact rfl) hth12 hs12 hdc ?_))
    refine bodyPost_ret (results_tmp2 rfl _ _ _) rfl ?_
    exact step_end ⟨p.D, .slice none 0 0, p.h, []⟩ HU0.out HP.out HPK.out HN.out HH4.out HM.out HROW5.out HV5.out ⟨HDIG5.out, HOK.out.old, OwnB.nil _ _, _, HO5.out⟩ rfl
      (fun j hj => by cases hj) (fun j hj => .inl hj) (fun j hj h2 => by cases h2)
      (by simp) rfl
  have q5 : (kind == 5) = false := by simpa using hk5
  obtain ⟨q, hq⟩ := HOK.out.hand
  have hrow5 := own_upd HROW.out HV3.out (by simp)
  obtain ⟨hthere, hset⟩ := own_setN hrow5 k (by have := HK.out; have := HN.out; omega) p.cells rfl
  have hkp5 := HKP.out
  have hth12 : w3.there g (k * 3) p.cells.toArray.size := hthere
  have HROW5 := Lib.hid hrow5
  clear hrow5 hset hthere
  go_upto_region 32 with (fail)
  try go_simp
  go_wp2_with (first
    | (with_reducible refine arm_load (by with_unfolding_all exact rfl) hkp5 Tryd.underlying27 (by with_unfolding_all exact rfl) hszP ?_)
    | (with_reducible refine arm_store_mid (by with_unfolding_all exact rfl) (by with_unfolding_all exact rfl) hth12 hszP haP ?_))
  refine bodyPost_ret (results_tmp2 rfl _ _ _) rfl ?_
  exact step_end p HU0.out HP.out HPK.out HN.out HH4.out HM.out HROW5.out HV3.out.of0 (HOK.out.upd HV3.out (by simp) (by simp) (by simp)) rfl
    (fun j hj => .inl hj) (fun j hj => .inl hj) (fun j hj => by
      obtain ⟨hk', hp'⟩ := List.getElem?_eq_some_iff.1 HPK.out
      have := HP.out.ha k k hk' hk' j (by rw [hp']; exact hj)
      rwa [hp'] at this)
    (by have := HMK.out; omega) rfl
end Go.Proofs.YtghdininkolanaaDoor
