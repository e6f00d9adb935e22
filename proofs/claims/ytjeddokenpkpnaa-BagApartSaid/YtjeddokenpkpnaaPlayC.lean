/-
  A bag and what it must hold, beside one another; put, double of Play.
-/
import Derived.Test.YtjeddokenpkpnaaPlayB
namespace Go.Proofs.Ytjeddokenpkpnaa
open Go Go.RowKit Go.Proofs Go.Maps
theorem arm_val {P : Program} {ops : Array Oper} {rest : List Oper} {a : Act} {w : World} {Q : Exit → Act → World → Prop} {o : Oper} {v : Value} (hw : Region.wanted o (yielded ops a.tmps) = true) (hy : (execOp a.eval o).run P w = .ok (.value v) w)
    (h : wpList P ops Q rest (a.put o.dst v) w) : wpList P ops Q (o :: rest) a w := wpl_wanted hw fun K hK => by
  unfold Oper.wp
  rw [hy]
  exact hK _ _ h
/-- the address of an element, with a guard -/
theorem arm_index_g {P : Program} {ops : Array Oper} {rest : List Oper} {a : Act} {w : World} {Q : Exit → Act → World → Prop} {dst : Option Tmp} {ty type e : TypeId} {pos : String} {after : Array Edge} {gd : Option (Nat × Bool)} {x y : Operand} {g o n c i size k : Nat} {u : Int}
    (hw : Region.wanted ⟨dst, .indexAddr ty x y, type, pos, after, gd⟩ (yielded ops a.tmps) = true) (hx : a.eval x = .slice (some ⟨g, o, none⟩) n c) (hy : a.eval y = .int .i64 u) (hu : u = i)
    (ht : P.underlying ty = some (.slice e)) (he : P.elem ty = e) (hs : (P.info? e).map (·.size) = some size) (hi : i < n) (hk : o + i * size = k)
    (h : wpList P ops Q rest (a.put dst (.pointer (some ⟨g, k, none⟩))) w) : wpList P ops Q (⟨dst, .indexAddr ty x y, type, pos, after, gd⟩ :: rest) a w :=
  arm_val hw (yields_index (S := fun _ => True) ht he hs hx hy hu hi hk w trivial) h
/-- a range is read, with a guard -/
theorem arm_load_mid_g {P : Program} {ops : Array Oper} {rest : List Oper} {a : Act} {w : World} {Q : Exit → Act → World → Prop} {dst : Option Tmp} {ty type : TypeId} {pos : String} {after : Array Edge} {gd : Option (Nat × Bool)} {x : Operand} {g k : Nat} {cs : List Value} {d : TypeDesc}
    (hw : Region.wanted ⟨dst, .load ty x, type, pos, after, gd⟩ (yielded ops a.tmps) = true) (hx : a.eval x = .pointer (some ⟨g, k, none⟩)) (hr : w.rangeAt g k cs) (hu : P.underlying ty = some d) (hd : d.isRow = true) (hi : (P.info? ty).map (·.size) = some cs.length)
    (h : wpList P ops Q rest (a.put dst (.agg cs.toArray)) w) : wpList P ops Q (⟨dst, .load ty x, type, pos, after, gd⟩ :: rest) a w :=
  arm_val hw (by
    unfold execOp
    simp only [hx, Instr.loadAt, Instr.sureAddr, Sem.run_bind, Sem.run_pure, Result.andThen_ok, run_loadVar_mid w g k ty cs d hr hu hd hi]) h
/-- a bag and its Play -/
structure PB (w : World) (lo bp bb bm : Nat) (va vt : Value) (al : List Ent) (tk : List Bool) (es : List Ent) (D : DataW Value) : Prop where
  play : PlayAt w lo bp va vt es.length al tk
  bag : BagAt w lo bb bm al.length es D
  alike : es.map Ent.core = (kept al tk).map Ent.core
def Still (w : World) (k : Nat) : Prop := ∀ (C : Array Value) (fr : Nat × Nat), w.heap[k]? ≠ some (.cells C 52 fr)
theorem Still.of {w : World} {k : Nat} {C : Array Value} {T : TypeId} {fr : Nat × Nat} (h : w.heap[k]? = some (.cells C T fr)) (hT : T ≠ 52) : Still w k := fun _ _ h' => heap_ne h h' hT rfl
/-- what lay there ahead is left, and every step -/
def Keeps (lo : Nat) (w w' : World) : Prop := (∀ w0 : World, w0.heap.size ≤ lo → Upd [] w0 w → Upd [] w0 w') ∧ ∀ (k : Nat) (C : Array Value) (fr : Nat × Nat), w.heap[k]? = some (.cells C 52 fr) → w'.heap[k]? = some (.cells C 52 fr)
theorem Keeps.of {lo : Nat} {w w' : World} {S : List Nat} (u : Upd S w w') (h : ∀ k ∈ S, lo ≤ k ∧ Still w k) : Keeps lo w w' := ⟨fun w0 hw hu => hu.trans' u (fun k hk hl => by have := (h k hk).1; omega), fun k C fr hc => u.heap hc (fun hm => (h k hm).2 _ _ hc)⟩
theorem Keeps.trans {lo : Nat} {w w' w'' : World} (h : Keeps lo w w') (k : Keeps lo w' w'') : Keeps lo w w'' := ⟨fun w0 hw hu => k.1 w0 hw (h.1 w0 hw hu), fun b C fr hc => k.2 b C fr (h.2 b C fr hc)⟩
theorem BagAt.keeps {w w' : World} {lo bb bm last : Nat} {es : List Ent} {D : DataW Value} (h : BagAt w lo bb bm last es D) (u : Upd [bb, bm] w w') : Keeps lo w w' := Keeps.of u (fun k hk => by
  simp only [List.mem_cons, List.not_mem_nil, or_false] at hk
  rcases hk with rfl | rfl
  · exact ⟨h.low.1, Still.of h.cells (by decide)⟩
  · exact ⟨h.low.2, fun C fr hc => map_ne h.map hc rfl⟩)
/-- there is one beside the other again -/
def PBs (w : World) (lo bp bb bm n : Nat) : Prop := ∃ va vt al tk es D, PB w lo bp bb bm va vt al tk es D ∧ al.length ≤ n
theorem PB.bs {w : World} {lo bp bb bm n : Nat} {va vt : Value} {al : List Ent} {tk : List Bool} {es : List Ent} {D : DataW Value} (h : PB w lo bp bb bm va vt al tk es D) (hn : al.length ≤ n) : PBs w lo bp bb bm n := ⟨va, vt, al, tk, es, D, h, hn⟩
theorem PB.upd0 {w w' : World} {lo bp bb bm : Nat} {va vt : Value} {al : List Ent} {tk : List Bool} {es : List Ent} {D : DataW Value} (h : PB w lo bp bb bm va vt al tk es D) (u : Upd [] w w') : PB w' lo bp bb bm va vt al tk es D := ⟨h.play.upd0 u, h.bag.upd0 u, h.alike⟩
theorem PlayAt.off {w : World} {lo bp : Nat} {va vt : Value} {here : Nat} {al : List Ent} {tk : List Bool} (h : PlayAt w lo bp va vt here al tk) : ∀ k ∈ bp :: (va.ownBlock.toList ++ vt.ownBlock.toList), NoBag w k ∧ lo ≤ k := fun k hk => by
  simp only [List.mem_cons, List.mem_append, Option.mem_toList] at hk
  rcases hk with rfl | hk | hk
  · exact ⟨⟨_, _, _, h.cells, by decide, by decide⟩, h.low⟩
  · obtain ⟨C, fr, h1⟩ := own_type h.all.row.2 hk; exact ⟨⟨_, _, _, h1, by decide, by decide⟩, (h.all.row.lt k hk).1⟩
  · obtain ⟨C, fr, h1⟩ := own_type h.tks.2 hk; exact ⟨⟨_, _, _, h1, by decide, by decide⟩, (OwnA.lt h.tks k hk).1⟩
theorem PlayAt.still {w : World} {lo bp : Nat} {va vt : Value} {here : Nat} {al : List Ent} {tk : List Bool} (h : PlayAt w lo bp va vt here al tk) : ∀ k ∈ bp :: (va.ownBlock.toList ++ vt.ownBlock.toList), lo ≤ k ∧ Still w k := fun k hk => by
  refine ⟨(h.off k hk).2, ?_⟩
  simp only [List.mem_cons, List.mem_append, Option.mem_toList] at hk
  rcases hk with rfl | hk | hk
  · exact Still.of h.cells (by decide)
  · obtain ⟨C, fr, h1⟩ := own_type h.all.row.2 hk; exact Still.of h1 (by decide)
  · obtain ⟨C, fr, h1⟩ := own_type h.tks.2 hk; exact Still.of h1 (by decide)
theorem PlayAt.keeps {w w' : World} {lo bp : Nat} {va vt : Value} {here : Nat} {al : List Ent} {tk : List Bool} (h : PlayAt w lo bp va vt here al tk) (u : Upd (bp :: (va.ownBlock.toList ++ vt.ownBlock.toList)) w w') : Keeps lo w w' := Keeps.of u h.still
/-- both have one more -/
theorem PB.more {w w1 w2 : World} {lo bp bb bm : Nat} {va vt va' vt' : Value} {al : List Ent} {tk : List Bool} {es : List Ent} {D D' : DataW Value} (h : PB w lo bp bb bm va vt al tk es D) {fr to : Int} {v v' : Value} {b : List (BitVec 8)}
    (hB : BagAt w1 lo bb bm (al.length + 1) (es ++ [⟨(al.length : Int) + 1, fr, to, v, b⟩]) D') (hP1 : PlayAt w1 lo bp va vt es.length al tk) (hP : PlayAt w2 lo bp va' vt' (es.length + 1) (al ++ [⟨(al.length : Int) + 1, fr, to, v', b⟩]) (tk ++ [false])) (u : Upd (bp :: (va.ownBlock.toList ++ vt.ownBlock.toList)) w1 w2) :
    PB w2 lo bp bb bm va' vt' (al ++ [⟨(al.length : Int) + 1, fr, to, v', b⟩]) (tk ++ [false]) (es ++ [⟨(al.length : Int) + 1, fr, to, v, b⟩]) D' := by
  refine ⟨by rw [List.length_append]; exact hP, ?_, ?_⟩
  · rw [List.length_append]
    exact hB.off u (fun k hk => (hP1.off k hk).1)
  · rw [kept_push _ _ _ h.play.len, List.map_append, List.map_append, h.alike]
    rfl
set_option maxRecDepth 100000 in
set_option maxHeartbeats 6400000 in
theorem put_p_long (w : World) (lo bp bb bm : Nat) (va vt : Value) (al : List Ent) (tk : List Bool) (es : List Ent) (D : DataW Value) (h : PB w lo bp bb bm va vt al tk es D) (_ : lo ≤ w.heap.size) (_ : al.length < 9300) (id fr to : Int) (v : Value) (b : List (BitVec 8)) (hv : RdB w v b) (hb : 1024 < b.length) :
    Calls Try.prog 22 #[.pointer (some ⟨bp, 0, none⟩), .pointer (some ⟨bb, 0, none⟩), .agg (msgC id fr to v)] w fun e w' => e = .returned (.bool true) ∧ PBs w' lo bp bb bm (al.length + 1) ∧ Keeps lo w w' := by
  obtain ⟨A, c, e, _⟩ := hv.isSlice
  subst e
  obtain ⟨v, hvv⟩ : ∃ v, Value.slice A b.length c = v := ⟨_, rfl⟩
  have hbi : (1024 : Int) < (b.length : Int) := by omega
  have H := Lib.hid h
  have HV := Lib.hid hv
  have HB : Hid (1024 < b.length) := hb
  rw [hvv] at HV ⊢
  have HVV := Lib.hid hvv
  clear h hv hb hvv
  go_enter Try.func22, Try.ntmps22
  go_wp2_with (with_reducible refine arm_box (by with_unfolding_all exact rfl) ?_)
  intro b5 w1 hb5 k1 hU1 hz1
  change w1.heap[b5]? = some (.cells (msgC id fr to v) 32 (0, 0)) at k1
  have HU1 := Lib.hid hU1
  have hsz := size_msg id fr to v
  have HK1 := Lib.hid k1
  clear hb5 hU1 hz1
  go_wp2_with (with_reducible refine arm_load (by with_unfolding_all exact rfl) k1 Try.underlying32 (by with_unfolding_all exact rfl) hsz ?_)
  refine (put_long _ _ id fr to v b (HV.out.upd0 HU1.out) HB.out).mono ?_
  rintro e w2 ⟨rfl, hU2⟩
  have c3 : w2.cell? ⟨b5, 3, none⟩ = some (.slice A b.length c) := by rw [cell_of_row _ _ _ _ _ _ (hU2.heap HK1.out (by simp)), HVV.out]; rfl
  have HU2 := Lib.hid (HU1.out.trans hU2)
  clear k1 hU2
  go_wp2_with (fail)
  go_ret
  exact ⟨rfl, (H.out.upd0 HU2.out).bs (by omega), Keeps.of HU2.out (by simp)⟩
set_option maxRecDepth 100000 in
set_option maxHeartbeats 6400000 in
theorem put_p_full (w : World) (lo bp bb bm : Nat) (va vt : Value) (al : List Ent) (tk : List Bool) (es : List Ent) (D : DataW Value) (h : PB w lo bp bb bm va vt al tk es D) (hlo : lo ≤ w.heap.size) (hs : al.length < 9300) (id fr to : Int) (v : Value) (b : List (BitVec 8)) (hv : RdB w v b) (hb : b.length ≤ 1024) (hr : es.length = 4096) :
    Calls Try.prog 22 #[.pointer (some ⟨bp, 0, none⟩), .pointer (some ⟨bb, 0, none⟩), .agg (msgC id fr to v)] w fun e w' => e = .returned (.bool true) ∧ PBs w' lo bp bb bm (al.length + 1) ∧ Keeps lo w w' := by
  obtain ⟨A, c, e, _⟩ := hv.isSlice
  subst e
  obtain ⟨v, hvv⟩ : ∃ v, Value.slice A b.length c = v := ⟨_, rfl⟩
  have hbi : (b.length : Int) ≤ 1024 := by omega
  have HV := Lib.hid hv
  have HB : Hid (b.length ≤ 1024) := hb
  rw [hvv] at HV ⊢
  have HVV := Lib.hid hvv
  have hvo : v.oneCell' = true := by rw [← hvv]; rfl
  clear hv hb hvv
  have H := Lib.hid h
  have HR := Lib.hid hr
  have HLO : Hid (lo ≤ w.heap.size) := hlo
  have HS : Hid (al.length < 9300) := hs
  have her : (es.length : Int) = 4096 := by omega
  clear h hr hlo hs
  clear her
  have her : ((es.length : Int) == 4096) = true := by simp; have := HR.out; omega
  go_enter Try.func22, Try.ntmps22
  go_wp2_with (with_reducible refine arm_box (by with_unfolding_all exact rfl) ?_)
  intro b5 w1 hb5 k1 hU1 hz1
  change w1.heap[b5]? = some (.cells (msgC id fr to v) 32 (0, 0)) at k1
  have HU1 := Lib.hid hU1
  have hsz := size_msg id fr to v
  have HK1 := Lib.hid k1
  clear hb5 hU1 hz1
  go_wp2_with (with_reducible refine arm_load (by with_unfolding_all exact rfl) k1 Try.underlying32 (by with_unfolding_all exact rfl) hsz ?_)
  refine (put_full _ lo bb bm al.length es D (H.out.bag.upd0 HU1.out) id fr to v b (HV.out.upd0 HU1.out) HB.out HR.out).mono ?_
  rintro e w2 ⟨rfl, hU2⟩
  have HU2 := Lib.hid (HU1.out.trans hU2)
  have H2 := Lib.hid (H.out.upd0 HU2.out)
  have c3 : w2.cell? ⟨b5, 3, none⟩ = some (.slice A b.length c) := by rw [cell_of_row _ _ _ _ _ _ (hU2.heap HK1.out (by simp)), HVV.out]; rfl
  clear k1
  have ch : w2.cell? ⟨bp, 2, none⟩ = some (.int .i64 es.length) := by rw [cell_of_row _ _ _ _ _ _ H2.out.play.cells]; rfl
  clear hU2
  go_wp2_with (fail)
  go_ret
  exact ⟨rfl, H2.out.bs (by omega), Keeps.of HU2.out (by simp)⟩
set_option maxRecDepth 100000 in
set_option maxHeartbeats 6400000 in
theorem put_p_ok (w : World) (lo bp bb bm : Nat) (va vt : Value) (al : List Ent) (tk : List Bool) (es : List Ent) (D : DataW Value) (h : PB w lo bp bb bm va vt al tk es D) (hlo : lo ≤ w.heap.size) (hs : al.length < 9300) (id fr to : Int) (v : Value) (b : List (BitVec 8)) (hv : RdB w v b) (hb : b.length ≤ 1024) (hr : es.length < 4096) :
    Calls Try.prog 22 #[.pointer (some ⟨bp, 0, none⟩), .pointer (some ⟨bb, 0, none⟩), .agg (msgC id fr to v)] w fun e w' => e = .returned (.bool true) ∧ PBs w' lo bp bb bm (al.length + 1) ∧ Keeps lo w w' := by
  obtain ⟨A, c, e, _⟩ := hv.isSlice
  subst e
  obtain ⟨v, hvv⟩ : ∃ v, Value.slice A b.length c = v := ⟨_, rfl⟩
  have hbi : (b.length : Int) ≤ 1024 := by omega
  have HV := Lib.hid hv
  have HB : Hid (b.length ≤ 1024) := hb
  rw [hvv] at HV ⊢
  have HVV := Lib.hid hvv
  have hvo : v.oneCell' = true := by rw [← hvv]; rfl
  clear hv hb hvv
  have H := Lib.hid h
  have HR := Lib.hid hr
  have HLO : Hid (lo ≤ w.heap.size) := hlo
  have HS : Hid (al.length < 9300) := hs
  have her : ((es.length : Int) == 4096) = false := by simp; omega
  clear h hr hlo hs
  go_enter Try.func22, Try.ntmps22
  go_wp2_with (with_reducible refine arm_box (by with_unfolding_all exact rfl) ?_)
  intro b5 w1 hb5 k1 hU1 hz1
  change w1.heap[b5]? = some (.cells (msgC id fr to v) 32 (0, 0)) at k1
  have HU1 := Lib.hid hU1
  have hsz := size_msg id fr to v
  have HK1 := Lib.hid k1
  clear hb5 hU1 hz1
  go_wp2_with (with_reducible refine arm_load (by with_unfolding_all exact rfl) k1 Try.underlying32 (by with_unfolding_all exact rfl) hsz ?_)
  refine (put_ _ lo bb bm al.length es D (H.out.bag.upd0 HU1.out) id fr to v b (HV.out.upd0 HU1.out) HB.out (by have := HS.out; omega) HR.out).mono ?_
  rintro e w2 ⟨v2, D2, rfl, hB2, hn2, hU2⟩
  have HB2 := Lib.hid hB2
  have HP2 : Hid (PlayAt w2 lo bp va vt es.length al tk) := (H.out.play.upd0 HU1.out).bag (H.out.bag.upd0 HU1.out) hU2
  have HU2 : Hid (Upd [bb, bm] w w2) := (HU1.out.of0).trans hU2
  have hne5 : ∀ k ∈ [bb, bm], b5 ≠ k := fun k hk e => by
    simp only [List.mem_cons, List.not_mem_nil, or_false] at hk
    rcases hk with rfl | rfl
    · exact heap_ne HK1.out (H.out.bag.upd0 HU1.out).cells (by decide) e
    · exact map_ne (H.out.bag.upd0 HU1.out).map HK1.out e.symm
  have k2 := hU2.heap HK1.out (fun hm => hne5 b5 hm rfl)
  have c3 : w2.cell? ⟨b5, 3, none⟩ = some (.slice A b.length c) := by rw [cell_of_row _ _ _ _ _ _ k2, HVV.out]; rfl
  have HV2 : Hid (RdB w2 v b) := (HV.out.upd0 HU1.out).upd' hU2 (fun h0 k hk hm => by
    simp only [List.mem_cons, List.not_mem_nil, or_false] at hm
    rcases hm with rfl | rfl
    · exact rd_ne (HV.out.upd0 HU1.out) (H.out.bag.upd0 HU1.out).cells h0 _ hk (by simp)
    · obtain ⟨g, p, c', e, _, _, hbt⟩ := (HV.out.upd0 HU1.out).at h0
      rw [e] at hk
      simp only [Value.ownBlock, Option.some.injEq] at hk
      subst hk
      obtain ⟨es', clock, hbm, _⟩ := (H.out.bag.upd0 HU1.out).map
      have h1 := hbt 0 h0
      simp [World.cell?, hbm] at h1)
  clear k1 hne5
  have ch : w2.cell? ⟨bp, 2, none⟩ = some (.int .i64 es.length) := by rw [cell_of_row _ _ _ _ _ _ HP2.out.cells]; rfl
  have hali : (al.length : Int) ≤ 9300 := by have := HS.out; omega
  clear hB2 hn2 hU2
  go_wp2_with (with_reducible refine arm_load_g (by kernel_rfl) (by with_unfolding_all exact rfl) k2 Try.underlying32 (by with_unfolding_all exact rfl) hsz ?_)
  refine (laid_ _ lo bp va vt es.length al tk HP2.out (by have := HU2.out.size; have := HLO.out; omega) HS.out (by have := HR.out; omega) id fr to v b HV2.out HB.out).mono ?_
  rintro e w3 ⟨va3, vt3, v3, rfl, hP3, hU3⟩
  have HPB3 := Lib.hid (H.out.more HB2.out HP2.out hP3 hU3)
  have HK3 : Hid (Keeps lo w w3) := (H.out.bag.keeps HU2.out).trans (HP2.out.keeps hU3)
  clear hP3 hU3 c3 ch k2
  go_wp2_with (fail)
  go_ret
  exact ⟨rfl, HPB3.out.bs (by rw [List.length_append]; exact Nat.le_refl _), HK3.out⟩
set_option maxRecDepth 100000 in
set_option maxHeartbeats 6400000 in
theorem double_p_full (w : World) (lo bp bb bm : Nat) (va vt : Value) (al : List Ent) (tk : List Bool) (es : List Ent) (D : DataW Value) (h : PB w lo bp bb bm va vt al tk es D) (hlo : lo ≤ w.heap.size) (hs : al.length < 9300) (x : Int) (hx : wfI x) (y : Ent) (hy : findE es x = some y) (hr : es.length = 4096) :
    Calls Try.prog 24 #[.pointer (some ⟨bp, 0, none⟩), .pointer (some ⟨bb, 0, none⟩), .int .i64 x] w fun e w' => e = .returned (.bool true) ∧ PBs w' lo bp bb bm (al.length + 1) ∧ Keeps lo w w' := by
  have hth : (findE (kept al tk) x).isSome = true := by
    cases hq : findE (kept al tk) x with
    | some _ => rfl
    | none => rw [((core_find h.alike x).1).2 hq] at hy; cases hy
  have H := Lib.hid h
  have HR := Lib.hid hr
  have HLO : Hid (lo ≤ w.heap.size) := hlo
  have HS : Hid (al.length < 9300) := hs
  have her : (es.length : Int) = 4096 := by omega
  clear h hr hlo hs
  clear her
  have her : ((es.length : Int) == 4096) = true := by simp; have := HR.out; omega
  go_enter Try.func24, Try.ntmps24
  go_wp2_with (fail)
  refine (double_full _ lo bb bm al.length es D H.out.bag x hx y hy HR.out).mono ?_
  rintro e w2 ⟨rfl, hU2⟩
  have HU2 := Lib.hid ((Upd.refl [] w).trans hU2)
  have H2 := Lib.hid (H.out.upd0 HU2.out)
  have ch : w2.cell? ⟨bp, 2, none⟩ = some (.int .i64 es.length) := by rw [cell_of_row _ _ _ _ _ _ H2.out.play.cells]; rfl
  clear hU2
  go_wp2_with (fail)
  refine (there_ _ lo bp va vt es.length al tk H2.out.play x hx).mono ?_
  rintro e w3 ⟨rfl, hU3⟩
  rw [hth]
  have ch3 := hU3.cell ch (by simp)
  have HU3 := Lib.hid (HU2.out.trans hU3)
  have H3 := Lib.hid (H.out.upd0 HU3.out)
  clear hU3 hth ch
  go_wp2_with (fail)
  go_ret
  exact ⟨rfl, H3.out.bs (by omega), Keeps.of HU3.out (by simp)⟩
set_option maxRecDepth 100000 in
set_option maxHeartbeats 6400000 in
theorem double_p_ok (w : World) (lo bp bb bm : Nat) (va vt : Value) (al : List Ent) (tk : List Bool) (es : List Ent) (D : DataW Value) (h : PB w lo bp bb bm va vt al tk es D) (hlo : lo ≤ w.heap.size) (hs : al.length < 9300) (x : Int) (hx : wfI x) (y : Ent) (hy : findE es x = some y) (hr : es.length < 4096) :
    Calls Try.prog 24 #[.pointer (some ⟨bp, 0, none⟩), .pointer (some ⟨bb, 0, none⟩), .int .i64 x] w fun e w' => e = .returned (.bool true) ∧ PBs w' lo bp bb bm (al.length + 1) ∧ Keeps lo w w' := by
  have hth : (findE (kept al tk) x).isSome = true := by
    cases hq : findE (kept al tk) x with
    | some _ => rfl
    | none => rw [((core_find h.alike x).1).2 hq] at hy; cases hy
  have H := Lib.hid h
  have HR := Lib.hid hr
  have HLO : Hid (lo ≤ w.heap.size) := hlo
  have HS : Hid (al.length < 9300) := hs
  have her : ((es.length : Int) == 4096) = false := by simp; omega
  clear h hr hlo hs
  go_enter Try.func24, Try.ntmps24
  go_wp2_with (fail)
  refine (double_ _ lo bb bm al.length es D H.out.bag x hx y hy (by have := HS.out; omega) HR.out).mono ?_
  rintro e w2 ⟨v2, D2, rfl, hB2, hn2, hU2⟩
  have HB2 := Lib.hid hB2
  have HP2 : Hid (PlayAt w2 lo bp va vt es.length al tk) := (H.out.play.upd0 (Upd.refl [] w)).bag (H.out.bag.upd0 (Upd.refl [] w)) hU2
  have HU2 : Hid (Upd [bb, bm] w w2) := ((Upd.refl [bb, bm] w)).trans hU2
  have ch : w2.cell? ⟨bp, 2, none⟩ = some (.int .i64 es.length) := by rw [cell_of_row _ _ _ _ _ _ HP2.out.cells]; rfl
  have hali : (al.length : Int) ≤ 9300 := by have := HS.out; omega
  clear hB2 hn2 hU2
  go_wp2_with (fail)
  refine (there_ _ lo bp va vt es.length al tk HP2.out x hx).mono ?_
  rintro e w3 ⟨rfl, hU3⟩
  rw [hth]
  have ch3 := hU3.cell ch (by simp)
  have HP3 := Lib.hid (HP2.out.upd0 hU3)
  have HB3 := Lib.hid (HB2.out.upd0 hU3)
  have HU3 := Lib.hid (HU2.out.trans0 hU3)
  have HU23 := Lib.hid hU3
  clear hU3 hth ch
  obtain ⟨j, hjx, hjl⟩ : ∃ j : Nat, x = (j : Int) + 1 ∧ j < al.length := by
    obtain ⟨h1, h2⟩ := findE_some hy
    have h3 := H.out.bag.ids y h1
    exact ⟨(x - 1).toNat, by omega, by omega⟩
  obtain ⟨z, hz⟩ : ∃ z, al[j] = z := ⟨_, rfl⟩
  have hzy : z.core = y.core := by
    cases hq : findE (kept al tk) x with
    | none => rw [((core_find H.out.alike x).1).2 hq] at hy; cases hy
    | some k =>
      have h1 := (core_find H.out.alike x).2 y k hy hq
      have h2 := find_kept al tk j hjl (by rw [H.out.play.len]; exact hjl) H.out.play.count.rise
      rw [H.out.play.count j hjl, ← hjx, hq] at h2
      split at h2
      · cases h2
      · injection h2 with h2
        rw [← hz, ← h2, h1]
  have HZY := Lib.hid hzy
  have hzm : z ∈ al := by rw [← hz]; exact List.getElem_mem hjl
  have HZ : Hid (RdB w3 z.v z.b ∧ z.b.length ≤ 1024) := ⟨(HP3.out.all.bodies z hzm).rd, HP3.out.short z hzm⟩
  obtain ⟨g, cap, cur, eA, rA⟩ := OwnA.at HP3.out.all.row (by rw [List.length_map]; omega)
  rw [List.length_map] at eA
  have hel : w3.rangeAt g (0 + j * 4) z.cells.toList := by
    have h1 := HP3.out.all.row
    rw [eA] at h1
    have h2 := OwnA.elem h1 j (by rw [List.length_map]; exact hjl)
    simp only [List.getElem_map, hz] at h2
    rw [Nat.zero_add]; exact h2
  have cA : w3.cell? ⟨bp, 0, none⟩ = some (.slice (some ⟨g, 0, none⟩) al.length cap) := by rw [cell_of_row _ _ _ _ _ _ HP3.out.cells, ← eA]; rfl
  have hjb : (j : Int) < (al.length : Int) := by omega
  have hji : (j : Int) ≤ 9300 := by omega
  have hszz := size_msgL z
  obtain ⟨kz, hkz⟩ : ∃ q, 0 + j * 4 = q := ⟨_, rfl⟩
  rw [hkz] at hel
  have HKZ := Lib.hid hkz
  have HJL := Lib.hid hjl
  have HZE : Hid (.agg z.cells.toList.toArray = Value.agg (msgC z.id z.fr z.to z.v)) := rfl
  subst hjx
  clear rA eA hz hzm hzy hkz hx hy
  go_wp2_with (first
    | (with_reducible refine arm_index_g (by kernel_rfl) (by with_unfolding_all exact rfl) (by with_unfolding_all exact rfl) rfl Try.underlying33 elem_msgs size_msg4 HJL.out HKZ.out ?_)
    | (with_reducible refine arm_load_mid_g (by kernel_rfl) (by with_unfolding_all exact rfl) hel Try.underlying32 rfl hszz ?_))
  have eb : z.b = y.b := congrArg (fun p => p.2.2.2) HZY.out
  have ef : z.fr = y.fr := congrArg (fun p => p.2.1) HZY.out
  have et : z.to = y.to := congrArg (fun p => p.2.2.1) HZY.out
  refine (laid_ _ lo bp va vt es.length al tk HP3.out (by have := HU3.out.size; have := HLO.out; omega) HS.out (by have := HR.out; omega) z.id z.fr z.to z.v z.b HZ.out.1 HZ.out.2).mono ?_
  rintro e w4 ⟨va4, vt4, v4, rfl, hP4, hU4⟩
  rw [ef, et, eb] at hP4
  have HPB4 := Lib.hid (H.out.more HB3.out HP3.out hP4 hU4)
  have HK4 : Hid (Keeps lo w w4) := (H.out.bag.keeps HU3.out).trans (HP3.out.keeps hU4)
  clear hP4 hU4 ch3 cA hel hszz eb ef et
  go_wp2_with (fail)
  go_ret
  exact ⟨rfl, HPB4.out.bs (by rw [List.length_append]; exact Nat.le_refl _), HK4.out⟩
end Go.Proofs.Ytjeddokenpkpnaa
