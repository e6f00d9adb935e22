/-
  The shelf of what was taken; taken.
-/
import Derived.Test.YtjeddokenpkpnaaExB
namespace Go.Proofs.Ytjeddokenpkpnaa
open Go Go.RowKit Go.Proofs Go.Maps
/-- a part of a block is written -/
theorem arm_store_part {P : Program} {ops : Array Oper} {rest : List Oper} {a : Act} {w : World} {Q : Exit → Act → World → Prop} {dst : Option Tmp} {ty type : TypeId} {pos : String} {after : Array Edge} {x y : Operand} {g k : Nat} {t : TypeId} {L cs : List Value} {v : Value}
    (hx : a.eval x = .pointer (some ⟨g, k, none⟩)) (hy : a.eval y = v) (hg : w.heap[g]? = some (.cells L.toArray t (0, 0))) (hcs : v.cells.toList = cs) (hk : k + cs.length ≤ L.length) (hi : (P.info? ty).map (·.size) = some cs.length) (h1 : ∀ u ∈ cs, u.oneCell' = true)
    (h : ∀ w', w'.heap[g]? = some (.cells (splice L k cs).toArray t (0, 0)) → Upd [g] w w' → w'.heap.size = w.heap.size → wpList P ops Q rest (a.put dst undef) w') : wpList P ops Q (⟨dst, .store ty x y, type, pos, after, none⟩ :: rest) a w := by
  refine wpList_plain rfl fun K hK => ?_
  have hs : (storeVar ty ⟨g, k, none⟩ v).run P w = .ok () (w.setCells g k cs) := by
    have := run_storeVar_mid (P := P) w g k ty cs.toArray (there_of_row hg k cs.length hk) (by simpa using hi) (by rw [Array.all_eq_true]; intro i hi; exact h1 _ (by simp))
    have e : storeVar ty ⟨g, k, none⟩ v = storeVar ty ⟨g, k, none⟩ (.agg cs.toArray) := by
      unfold storeVar
      have : v.cells = cs.toArray := Array.ext' hcs
      rw [this]
      rfl
    rw [e, this]
  unfold Oper.wp execOp
  simp only [hx, hy, Instr.storeAt, Instr.sureAddr, Sem.run_bind, Sem.run_pure, Result.andThen_ok, hs]
  exact hK _ _ (h _ (setCells_heap g cs k w L hk hg) ((Upd.refl _ w).setCells g k _ (by simp)) (setCells_size g _ k w))
def shL (m q : Ent) (b : Bool) : List Value := [.int .i64 m.id, .int .i64 m.fr, .int .i64 m.to, m.v, .int .i64 q.id, .int .i64 q.fr, .int .i64 q.to, q.v, .bool b]
structure ShelfAt (w : World) (lo bs : Nat) (m q : Ent) (b : Bool) (es : List Ent) : Prop where
  cells : w.heap[bs]? = some (.cells (shL m q b).toArray 48 (0, 0))
  own : OwnB w lo m.v m.b
  ownw : OwnB w lo q.v q.b
  alike : m.core = q.core
  short : m.b.length ≤ 1024
  apart : ∀ e ∈ es, ∀ k, m.v.ownBlock = some k → e.v.ownBlock ≠ some k
  apartw : ∀ k, m.v.ownBlock = some k → q.v.ownBlock ≠ some k
  low : lo ≤ bs
theorem ShelfAt.upd {w w' : World} {lo bs : Nat} {m q : Ent} {b : Bool} {es es' : List Ent} {S : List Nat} (h : ShelfAt w lo bs m q b es) (u : Upd S w w') (h1 : bs ∉ S) (h2 : ∀ k, m.v.ownBlock = some k → k ∉ S) (h3 : ∀ k, q.v.ownBlock = some k → k ∉ S)
    (h4 : ∀ x ∈ es', x ∈ es ∨ ∀ k, x.v.ownBlock = some k → w.heap.size ≤ k) : ShelfAt w' lo bs m q b es' :=
  ⟨u.heap h.cells h1, h.own.upd u h2, h.ownw.upd u h3, h.alike, h.short, fun e he k hk hk2 => by
    rcases h4 e he with he | he
    · exact h.apart e he k hk hk2
    · have := he k hk2; have := (h.own.lt k hk).2; omega, h.apartw, h.low⟩
theorem ShelfAt.upd0 {w w' : World} {lo bs : Nat} {m q : Ent} {b : Bool} {es : List Ent} (h : ShelfAt w lo bs m q b es) (u : Upd [] w w') : ShelfAt w' lo bs m q b es := h.upd u (by simp) (by simp) (by simp) (fun x hx => .inl hx)
/-- behind a call on the bag -/
theorem ShelfAt.bag {w w' : World} {lo bs : Nat} {m q : Ent} {b : Bool} {es es' : List Ent} (h : ShelfAt w lo bs m q b es) {lo' bb bm last : Nat} {es0 : List Ent} {D : DataW Value} (hb : BagAt w lo' bb bm last es0 D) (u : Upd [bb, bm] w w')
    (h4 : ∀ x ∈ es', x ∈ es ∨ ∀ k, x.v.ownBlock = some k → w.heap.size ≤ k) : ShelfAt w' lo bs m q b es' := by
  have key : ∀ k C T fr, w.heap[k]? = some (.cells C T fr) → T ≠ 71 → k ∉ [bb, bm] := fun k C T fr h1 h2 hm => by
    simp only [List.mem_cons, List.not_mem_nil, or_false] at hm
    rcases hm with rfl | rfl
    · exact heap_ne h1 hb.cells h2 rfl
    · exact map_ne hb.map h1 rfl
  refine h.upd u (key bs _ _ _ h.cells (by decide)) (fun k hk => ?_) (fun k hk => ?_) h4
  · obtain ⟨C, fr, h1⟩ := own_type h.own hk; exact key k _ _ _ h1 (by decide)
  · obtain ⟨C, fr, h1⟩ := own_type h.ownw hk; exact key k _ _ _ h1 (by decide)
/-- blocks that are no part of the bags -/
theorem ExAt.off {w w' w0 : World} {lo bb bm : Nat} {v : Value} {last : Nat} {es ks : List Ent} {D : DataW Value} {S : List Nat} (h : ExAt w w0 lo bb bm v last es ks D) (u : Upd S w w')
    (hS : ∀ k ∈ S, lo ≤ k ∧ (∃ C T fr, w.heap[k]? = some (.cells C T fr) ∧ T ≠ 71 ∧ T ≠ 32) ∧ ∀ e ∈ es, e.v.ownBlock ≠ some k) : ExAt w' w0 lo bb bm v last es ks D := by
  refine ⟨h.bag.upd u (fun hm => ?_) (fun hm => ?_) (fun e he k hk hm => (hS k hm).2.2 e he hk), h.alike, h.row.upd u (fun k hk hm => ?_), h.rd, h.since.trans' u (fun k hm hl => by have := (hS k hm).1; have := h.low; omega), h.low⟩
  · obtain ⟨C, T, fr, h1, h2, _⟩ := (hS bb hm).2.1; exact heap_ne h1 h.bag.cells h2 rfl
  · obtain ⟨C, T, fr, h1, _⟩ := (hS bm hm).2.1; exact map_ne h.bag.map h1 rfl
  · obtain ⟨C, T, fr, h1, _, h3⟩ := (hS k hm).2.1; exact OwnA.ne h.row h1 h3 hk
theorem size_shelf : (Try.prog.info? 48).map (·.size) = some 9 := by kernel_rfl
theorem size_bool1 : (Try.prog.info? 4).map (·.size) = some 1 := by kernel_rfl
theorem built_shelf : Try.prog.built 48 [] = some (shL ⟨0, 0, 0, .slice none 0 0, []⟩ ⟨0, 0, 0, .slice none 0 0, []⟩ false).toArray := by kernel_rfl
theorem ShelfAt.start {w : World} {lo bs : Nat} (h : w.heap[bs]? = some (.cells (shL ⟨0, 0, 0, .slice none 0 0, []⟩ ⟨0, 0, 0, .slice none 0 0, []⟩ false).toArray 48 (0, 0))) (hl : lo ≤ bs) : ShelfAt w lo bs ⟨0, 0, 0, .slice none 0 0, []⟩ ⟨0, 0, 0, .slice none 0 0, []⟩ false [] :=
  ⟨h, OwnB.nil _ _, OwnB.nil _ _, rfl, by simp, by simp, (fun k hk => by cases hk), hl⟩
/-- what taken leaves -/
def TakenAns (w : World) (lo bs : Nat) (m0 m q : Ent) (es : List Ent) (e : Ending) (w' : World) : Prop :=
  ∃ v', e = .returned (.bool true) ∧ ShelfAt w' lo bs m ⟨q.id, q.fr, q.to, v', q.b⟩ true es ∧ Upd (bs :: m0.v.ownBlock.toList) w w'
set_option maxRecDepth 100000 in
set_option maxHeartbeats 6400000 in
theorem taken_false (w w0 : World) (lo bs : Nat) (m0 q0 : Ent) (es : List Ent) (h : ShelfAt w lo bs m0 q0 false es) (since : Upd [] w0 w) (hlo0 : w0.heap.size ≤ lo) (hlo : lo ≤ w.heap.size) (m q : Ent) (hm : OwnB w lo m.v m.b) (hq : RdB w0 q.v q.b) (hc : m.core = q.core) (hs : m.b.length ≤ 1024)
    (hne : ∀ k, m.v.ownBlock = some k → m0.v.ownBlock ≠ some k) (hap : ∀ e ∈ es, ∀ k, m.v.ownBlock = some k → e.v.ownBlock ≠ some k) :
    Calls Try.prog 37 #[.pointer (some ⟨bs, 0, none⟩), .agg m.cells, .agg q.cells] w (TakenAns w lo bs m0 m q es) := by
  obtain ⟨MA, mc, eM⟩ := hm.isSlice
  obtain ⟨QA, qc, eQ, _⟩ := hq.isSlice
  have hmo : m.v.oneCell' = true := by rw [eM]; rfl
  have hqo : q.v.oneCell' = true := by rw [eQ]; rfl
  have hqb : q.b.length ≤ 1024 := by have e : m.b = q.b := congrArg (fun p => p.2.2.2) hc; rw [← e]; exact hs
  have H := Lib.hid h
  have HS := Lib.hid since
  have HL0 := Lib.hid hlo0
  have HL := Lib.hid hlo
  have HM := Lib.hid hm
  have HQ := Lib.hid hq
  have HC := Lib.hid hc
  have HSH := Lib.hid hs
  have HNE := Lib.hid hne
  have HAP := Lib.hid hap
  have HQB : Hid (q.b.length ≤ 1024) := hqb
  have hsm := size_msg m.id m.fr m.to m.v
  have hsq := size_msg q.id q.fr q.to q.v
  have hms : (Try.prog.info? 32).map (·.size) = some (msgC m.id m.fr m.to m.v).toList.length := size_msg4
  clear h since hlo0 hlo hm hq hc hs hne hap hqb eM eQ
  unfold Ent.cells
  go_enter Try.func37, Try.ntmps37
  go_wp2_with (with_reducible refine arm_box (by with_unfolding_all exact rfl) ?_)
  intro b4 w1 hb4 k4 hU1 hz1
  change w1.heap[b4]? = some (.cells (msgC m.id m.fr m.to m.v) 32 (0, 0)) at k4
  have HB4 : Hid (w.heap.size = b4) := hb4
  have HU1 := Lib.hid hU1
  clear hb4 hU1 hz1
  go_wp2_with (with_reducible refine arm_box (by with_unfolding_all exact rfl) ?_)
  intro b5 w2 hb5 k5 hU2 hz2
  change w2.heap[b5]? = some (.cells (msgC q.id q.fr q.to q.v) 32 (0, 0)) at k5
  have HB5 : Hid (w1.heap.size = b5) := hb5
  have HN45 : Hid (b4 ≠ b5) := by show b4 ≠ b5; have := lt_of_heap k4; have := HB5.out; omega
  have HK4 := Lib.hid (hU2.heap k4 (by simp))
  have HK5 := Lib.hid k5
  have HU2 := Lib.hid (HU1.out.trans hU2)
  have H2 := Lib.hid (H.out.upd0 HU2.out)
  have HM2 := Lib.hid (HM.out.upd0 HU2.out)
  have hcs : w2.cell? ⟨bs, 8, none⟩ = some (.bool false) := by rw [cell_of_row _ _ _ _ _ _ H2.out.cells]; rfl
  have HW5 : Hid (w.heap.size ≤ b5) := by show w.heap.size ≤ b5; have := HB5.out; have := HU1.out.size; omega
  clear hb5 hU2 hz2 k4 k5
  have k5 := HK5.out
  have hsh := H2.out.cells
  have HM4 := HM2
  have HU4 : Hid (Upd m0.v.ownBlock.toList w w2) := HU2.out.of0
  have HS4 := Lib.hid (HS.out.trans HU2.out)
  
  have hO5 : Upd [] w2 (w2.alloc (.cells #[] 5)) := (Upd.refl _ _).alloc _
  have c5 : (w2.alloc (.cells #[] 5)).cell? ⟨b5, 3, none⟩ = some q.v := by rw [cell_of_row _ _ _ _ _ _ (hO5.heap k5 (by simp))]; rfl
  have HO5 := Lib.hid hO5
  have HWE : Hid (w.heap.size ≤ w2.heap.size) := HU4.out.size
  have HK5 := Lib.hid k5
  have HSH1 := Lib.hid hsh
  clear hO5 k5 hsh
  go_wp2_with (refine append_rd rfl _ _ rfl w2.heap.size _ [] (by with_unfolding_all exact rfl) (own_empty _) _ q.b (by with_unfolding_all exact rfl) (HQ.out.upd0 (HS4.out.trans HO5.out)) (by have := HQB.out; simp; omega) (by simp) ?_)
  intro vq w6 hO6 _ hU6 _
  have hO6 : OwnB w6 w2.heap.size vq q.b := hO6
  have HWU : Hid (Upd [] w2 w6) := HO5.out.trans' hU6 (fun k hm hl => by simp [Value.ownBlock] at hm; omega)
  have HK4 := Lib.hid (HWU.out.heap HK4.out (by simp))
  have k5 := HWU.out.heap HK5.out (by simp)
  have HSH2 := Lib.hid (HWU.out.heap HSH1.out (by simp))
  have HM6 := Lib.hid (HM4.out.upd0 HWU.out)
  have HU6 : Hid (Upd m0.v.ownBlock.toList w w6) := HU4.out.trans0 HWU.out
  have HS6 := Lib.hid (HS4.out.trans HWU.out)
  have HV6 := Lib.hid hO6
  have hvq : vq.cells = #[vq] ∧ vq.oneCell' = true := by obtain ⟨a, q, e⟩ := hO6.isSlice; rw [e]; exact ⟨rfl, rfl⟩
  have hsq2 := size_msg q.id q.fr q.to vq
  have hsqL : (Try.prog.info? 32).map (·.size) = some (msgC q.id q.fr q.to vq).toList.length := size_msg4
  clear hO6 hU6 c5 hcs
  go_wp2_with (with_reducible refine arm_store_at (by with_unfolding_all exact rfl) (by with_unfolding_all exact rfl) k5 (by simp [msgC]) hvq.1 size_bytes1 hvq.2 ?_)
  intro w7 k5' hX7 hz7
  change w7.heap[b5]? = some (.cells (msgC q.id q.fr q.to vq) 32 (0, 0)) at k5'
  have k4 := hX7.heap HK4.out (fun hm => HN45.out (List.mem_singleton.1 hm))
  have hsh := hX7.heap HSH2.out (fun hm => heap_ne HSH2.out k5 (by decide) (List.mem_singleton.1 hm))
  have HM7 := Lib.hid (HM6.out.upd hX7 (fun k hk hm => cells_ne HM6.out k5 (by decide) (by rw [hk, List.mem_singleton.1 hm])))
  have HV7 := Lib.hid (HV6.out.upd hX7 (fun k hk hm => cells_ne HV6.out k5 (by decide) (by rw [hk, List.mem_singleton.1 hm])))
  have HU7 : Hid (Upd m0.v.ownBlock.toList w w7) := HU6.out.trans' hX7 (fun k hm hl => by have := List.mem_singleton.1 hm; have := HW5.out; omega)
  have HK5 := Lib.hid k5'
  clear hX7 hz7 k5 k5'
  have h1m : ∀ u ∈ (msgC m.id m.fr m.to m.v).toList, u.oneCell' = true := one_msgL _ _ _ hmo
  have h1q : ∀ u ∈ (msgC q.id q.fr q.to vq).toList, u.oneCell' = true := one_msgL _ _ _ hvq.2
  go_wp2_with (first
    | (with_reducible refine arm_load (by with_unfolding_all exact rfl) k4 Try.underlying32 (by with_unfolding_all exact rfl) hsm ?_)
    | (with_reducible refine arm_store_part (cs := (msgC m.id m.fr m.to m.v).toList) (by with_unfolding_all exact rfl) (by with_unfolding_all exact rfl) hsh (by with_unfolding_all exact rfl) (by simp [shL, msgC]) hms h1m ?_))
  intro w8 hsh8 hX8 hz8
  change w8.heap[bs]? = some (.cells (shL m q0 false).toArray 48 (0, 0)) at hsh8
  have HTS : Hid (∀ {k : Nat} {C : Array Value} {T : TypeId} {fr' : Nat × Nat}, w7.heap[k]? = some (.cells C T fr') → T ≠ 48 → k ∉ [bs]) := fun {k C T fr'} h1 h2 hm => heap_ne h1 hsh h2 (List.mem_singleton.1 hm)
  have HK4 := Lib.hid (hX8.heap k4 (HTS.out k4 (by decide)))
  have k5 := hX8.heap HK5.out (HTS.out HK5.out (by decide))
  have HM8 := Lib.hid (HM7.out.upd hX8 (fun k hk => by obtain ⟨C, fr', h1⟩ := own_type HM7.out hk; exact HTS.out h1 (by decide)))
  have HV8 := Lib.hid (HV7.out.upd hX8 (fun k hk => by obtain ⟨C, fr', h1⟩ := own_type HV7.out hk; exact HTS.out h1 (by decide)))
  have HU8 : Hid (Upd (bs :: m0.v.ownBlock.toList) w w8) := (HU7.out.mono (fun i hm _ => List.mem_cons_of_mem _ hm)).trans' hX8 (fun k hm hl => by rw [List.mem_singleton.1 hm]; simp)
  clear hX8 hz8 hsh k4
  go_wp2_with (first
    | (with_reducible refine arm_load (by with_unfolding_all exact rfl) k5 Try.underlying32 (by with_unfolding_all exact rfl) hsq2 ?_)
    | (with_reducible refine arm_store_part (cs := (msgC q.id q.fr q.to vq).toList) (by with_unfolding_all exact rfl) (by with_unfolding_all exact rfl) hsh8 (by with_unfolding_all exact rfl) (by simp [shL, msgC]) hsqL h1q ?_))
  intro w9 hsh9 hX9 hz9
  change w9.heap[bs]? = some (.cells (shL m ⟨q.id, q.fr, q.to, vq, q.b⟩ false).toArray 48 (0, 0)) at hsh9
  have HT9 : Hid (∀ {k : Nat} {C : Array Value} {T : TypeId} {fr' : Nat × Nat}, w8.heap[k]? = some (.cells C T fr') → T ≠ 48 → k ∉ [bs]) := fun {k C T fr'} h1 h2 hm => heap_ne h1 hsh8 h2 (List.mem_singleton.1 hm)
  have HK4 := Lib.hid (hX9.heap HK4.out (HT9.out HK4.out (by decide)))
  have HK5 := Lib.hid (hX9.heap k5 (HT9.out k5 (by decide)))
  have HM9 := Lib.hid (HM8.out.upd hX9 (fun k hk => by obtain ⟨C, fr', h1⟩ := own_type HM8.out hk; exact HT9.out h1 (by decide)))
  have HV9 := Lib.hid (HV8.out.upd hX9 (fun k hk => by obtain ⟨C, fr', h1⟩ := own_type HV8.out hk; exact HT9.out h1 (by decide)))
  have HU9 : Hid (Upd (bs :: m0.v.ownBlock.toList) w w9) := HU8.out.trans' hX9 (fun k hm hl => by rw [List.mem_singleton.1 hm]; simp)
  clear hX9 hz9 hsh8 k5
  go_wp2_with (with_reducible refine arm_store_at (by with_unfolding_all exact rfl) (by with_unfolding_all exact rfl) hsh9 (by simp [shL]) (by with_unfolding_all exact rfl) size_bool1 (by with_unfolding_all exact rfl) ?_)
  intro wa hsha hXa hza
  change wa.heap[bs]? = some (.cells (shL m ⟨q.id, q.fr, q.to, vq, q.b⟩ true).toArray 48 (0, 0)) at hsha
  have HTA : Hid (∀ {k : Nat} {C : Array Value} {T : TypeId} {fr' : Nat × Nat}, w9.heap[k]? = some (.cells C T fr') → T ≠ 48 → k ∉ [bs]) := fun {k C T fr'} h1 h2 hm => heap_ne h1 hsh9 h2 (List.mem_singleton.1 hm)
  have k4 := hXa.heap HK4.out (HTA.out HK4.out (by decide))
  have k5 := hXa.heap HK5.out (HTA.out HK5.out (by decide))
  have HMA := Lib.hid (HM9.out.upd hXa (fun k hk => by obtain ⟨C, fr', h1⟩ := own_type HM9.out hk; exact HTA.out h1 (by decide)))
  have HVA := Lib.hid (HV9.out.upd hXa (fun k hk => by obtain ⟨C, fr', h1⟩ := own_type HV9.out hk; exact HTA.out h1 (by decide)))
  have HUA : Hid (Upd (bs :: m0.v.ownBlock.toList) w wa) := HU9.out.trans' hXa (fun k hm hl => by rw [List.mem_singleton.1 hm]; simp)
  have HSHA := Lib.hid hsha
  clear hXa hza hsh9 hsha
  go_wp2_with (first
    | (with_reducible refine arm_load (by with_unfolding_all exact rfl) k4 Try.underlying32 (by with_unfolding_all exact rfl) hsm ?_)
    | (with_reducible refine arm_load (by with_unfolding_all exact rfl) k5 Try.underlying32 (by with_unfolding_all exact rfl) hsq2 ?_))
  refine (sameM_ _ m ⟨q.id, q.fr, q.to, vq, q.b⟩ HMA.out.rd HVA.out.rd (by have := HSH.out; omega) (by have := HQB.out; show q.b.length ≤ 1000000; omega)).mono ?_
  rintro e wb ⟨rfl, hUb⟩
  have heq : eqCore m ⟨q.id, q.fr, q.to, vq, q.b⟩ = true := (eqCore_iff _ _).2 HC.out
  rw [heq]
  have HUB := Lib.hid hUb
  clear hUb heq k4 k5
  go_wp2_with (fail)
  go_ret
  have hfr : ∀ k, vq.ownBlock = some k → w.heap.size ≤ k := fun k hk => by have h1 := (HV6.out.lt k hk).1; have := HWE.out; omega
  exact ⟨vq, rfl, ⟨HUB.out.heap HSHA.out (by simp), HMA.out.upd0 HUB.out, (HVA.out.upd0 HUB.out).mono (fun k hk => by have := hfr k hk; have := HL.out; omega), HC.out, HSH.out, fun e he k hk hk2 => HAP.out e he k hk hk2, fun k hk hk2 => by have h1 := (HM.out.lt k hk).2; have h2 := hfr k hk2; omega, H.out.low⟩, HUA.out.trans0 HUB.out⟩
set_option maxRecDepth 100000 in
set_option maxHeartbeats 6400000 in
theorem taken_true (w w0 : World) (lo bs : Nat) (m0 q0 : Ent) (es : List Ent) (h : ShelfAt w lo bs m0 q0 true es) (since : Upd [] w0 w) (hlo0 : w0.heap.size ≤ lo) (hlo : lo ≤ w.heap.size) (m q : Ent) (hm : OwnB w lo m.v m.b) (hq : RdB w0 q.v q.b) (hc : m.core = q.core) (hs : m.b.length ≤ 1024)
    (hne : ∀ k, m.v.ownBlock = some k → m0.v.ownBlock ≠ some k) (hap : ∀ e ∈ es, ∀ k, m.v.ownBlock = some k → e.v.ownBlock ≠ some k) :
    Calls Try.prog 37 #[.pointer (some ⟨bs, 0, none⟩), .agg m.cells, .agg q.cells] w (TakenAns w lo bs m0 m q es) := by
  obtain ⟨MA, mc, eM⟩ := hm.isSlice
  obtain ⟨QA, qc, eQ, _⟩ := hq.isSlice
  have hmo : m.v.oneCell' = true := by rw [eM]; rfl
  have hqo : q.v.oneCell' = true := by rw [eQ]; rfl
  have hqb : q.b.length ≤ 1024 := by have e : m.b = q.b := congrArg (fun p => p.2.2.2) hc; rw [← e]; exact hs
  have H := Lib.hid h
  have HS := Lib.hid since
  have HL0 := Lib.hid hlo0
  have HL := Lib.hid hlo
  have HM := Lib.hid hm
  have HQ := Lib.hid hq
  have HC := Lib.hid hc
  have HSH := Lib.hid hs
  have HNE := Lib.hid hne
  have HAP := Lib.hid hap
  have HQB : Hid (q.b.length ≤ 1024) := hqb
  have hsm := size_msg m.id m.fr m.to m.v
  have hsq := size_msg q.id q.fr q.to q.v
  have hms : (Try.prog.info? 32).map (·.size) = some (msgC m.id m.fr m.to m.v).toList.length := size_msg4
  clear h since hlo0 hlo hm hq hc hs hne hap hqb eM eQ
  unfold Ent.cells
  go_enter Try.func37, Try.ntmps37
  go_wp2_with (with_reducible refine arm_box (by with_unfolding_all exact rfl) ?_)
  intro b4 w1 hb4 k4 hU1 hz1
  change w1.heap[b4]? = some (.cells (msgC m.id m.fr m.to m.v) 32 (0, 0)) at k4
  have HB4 : Hid (w.heap.size = b4) := hb4
  have HU1 := Lib.hid hU1
  clear hb4 hU1 hz1
  go_wp2_with (with_reducible refine arm_box (by with_unfolding_all exact rfl) ?_)
  intro b5 w2 hb5 k5 hU2 hz2
  change w2.heap[b5]? = some (.cells (msgC q.id q.fr q.to q.v) 32 (0, 0)) at k5
  have HB5 : Hid (w1.heap.size = b5) := hb5
  have HN45 : Hid (b4 ≠ b5) := by show b4 ≠ b5; have := lt_of_heap k4; have := HB5.out; omega
  have HK4 := Lib.hid (hU2.heap k4 (by simp))
  have HK5 := Lib.hid k5
  have HU2 := Lib.hid (HU1.out.trans hU2)
  have H2 := Lib.hid (H.out.upd0 HU2.out)
  have HM2 := Lib.hid (HM.out.upd0 HU2.out)
  have hcs : w2.cell? ⟨bs, 8, none⟩ = some (.bool true) := by rw [cell_of_row _ _ _ _ _ _ H2.out.cells]; rfl
  have HW5 : Hid (w.heap.size ≤ b5) := by show w.heap.size ≤ b5; have := HB5.out; have := HU1.out.size; omega
  clear hb5 hU2 hz2 k4 k5
  have hm0 : RdB w2 m0.v m0.b := H2.out.own.rd
  have hq0 : RdB w2 q0.v q0.b := H2.out.ownw.rd
  have hs0 : (Try.prog.info? 32).map (·.size) = some (msgC m0.id m0.fr m0.to m0.v).toList.length := size_msg4
  have hsq0 : (Try.prog.info? 32).map (·.size) = some (msgC q0.id q0.fr q0.to q0.v).toList.length := size_msg4
  have hqb0 : q0.b.length ≤ 1024 := by have e : m0.b = q0.b := congrArg (fun p => p.2.2.2) H.out.alike; rw [← e]; exact H.out.short
  have HL0' : Hid (∀ W, Upd [] w2 W → W.rangeAt bs 0 (msgC m0.id m0.fr m0.to m0.v).toList) := fun W hW => range_of_row (cur := shL m0 q0 true) (hW.heap H2.out.cells (by simp)) 0 _ ⟨[], [.int .i64 q0.id, .int .i64 q0.fr, .int .i64 q0.to, q0.v, .bool true], rfl, rfl⟩
  have HL4' : Hid (∀ W, Upd [] w2 W → W.rangeAt bs 4 (msgC q0.id q0.fr q0.to q0.v).toList) := fun W hW => range_of_row (cur := shL m0 q0 true) (hW.heap H2.out.cells (by simp)) 4 _ ⟨[.int .i64 m0.id, .int .i64 m0.fr, .int .i64 m0.to, m0.v], [.bool true], rfl, rfl⟩
  have HSM : Hid (∀ W, Upd [] w2 W → Calls Try.prog 12 #[.agg (msgC m0.id m0.fr m0.to m0.v), .agg (msgC q0.id q0.fr q0.to q0.v)] W fun e w' => e = .returned (.bool true) ∧ Upd [] W w') := fun W hW => by
    have := sameM_ W m0 q0 (hm0.upd0 hW) (hq0.upd0 hW) (by have := H.out.short; omega) (by omega)
    rw [(eqCore_iff m0 q0).2 H.out.alike] at this
    exact this
  clear hm0 hq0
  go_upto_region 2 with (fail)
  go_simp
  refine wp_region_quiet_all (Upd [] w2) (by kernel_rfl) (by kernel_rfl) (Upd.refl _ _).drew ?_
  repeat (first
    | go_big_quiet_skip
    | (refine wpQuiet_valK rfl (quiet_load_mid 32 _ rfl bs 0 rfl _ HL0'.out Try.underlying32 rfl hs0) (fun K hK => ?_); go_simp; refine hK _ ?_; clear hK K)
    | (refine wpQuiet_valK rfl (quiet_load_mid 32 _ rfl bs 4 rfl _ HL4'.out Try.underlying32 rfl hsq0) (fun K hK => ?_); go_simp; refine hK _ ?_; clear hK K)
    | go_big_quiet_step ((intro hw2; first
        | rfl
        | ((with_reducible refine (HSM.out _ hw2).mono ?_); exact fun e w' h => ⟨h.1, hw2.trans h.2⟩))))
  refine wpQuiet_nil ?_
  intro w3 hU3
  have HK4 := Lib.hid (hU3.heap HK4.out (by simp))
  have HK5 := Lib.hid (hU3.heap HK5.out (by simp))
  have H3 := Lib.hid (H2.out.upd0 hU3)
  have HM3 := Lib.hid (HM2.out.upd0 hU3)
  have hl3 := HL0'.out w3 hU3
  have HU3 := Lib.hid (HU2.out.trans hU3)
  clear hU3 HL0' HL4' HSM hcs hsq0 hqb0
  go_wp2_with (with_reducible refine arm_load_mid_g (by kernel_rfl) (by with_unfolding_all exact rfl) hl3 Try.underlying32 rfl hs0 ?_)
  refine (wipe_ _ lo m0.id m0.fr m0.to m0.v m0.b H3.out.own (by have := HL.out; have := HU3.out.size; omega) (by have := H.out.short; omega)).mono ?_
  rintro e w4 ⟨⟨z, rfl⟩, hU4⟩
  have HFT : Hid (∀ {k : Nat} {C : Array Value} {T : TypeId} {fr' : Nat × Nat}, w3.heap[k]? = some (.cells C T fr') → T ≠ 5 → k ∉ m0.v.ownBlock.toList) := fun {k C T fr'} h1 h2 hm => cells_ne H3.out.own h1 h2 (by simpa using hm)
  have HK4 := Lib.hid (hU4.heap HK4.out (HFT.out HK4.out (by decide)))
  have k5 := hU4.heap HK5.out (HFT.out HK5.out (by decide))
  have hsh := hU4.heap H3.out.cells (HFT.out H3.out.cells (by decide))
  have HM4 := Lib.hid (HM3.out.upd hU4 (fun k hk hm => HNE.out k hk (by simpa using hm)))
  have HU4 : Hid (Upd m0.v.ownBlock.toList w w4) := (HU3.out.of0).trans hU4
  have HS4 : Hid (Upd [] w0 w4) := (HS.out.trans HU3.out).trans' hU4 (fun k hm hl => by have := (H3.out.own.lt k (by simpa using hm)).1; have := HL0.out; omega)
  clear hU4 hl3 hs0
  
  have hO5 : Upd [] w4 (w4.alloc (.cells #[] 5)) := (Upd.refl _ _).alloc _
  have c5 : (w4.alloc (.cells #[] 5)).cell? ⟨b5, 3, none⟩ = some q.v := by rw [cell_of_row _ _ _ _ _ _ (hO5.heap k5 (by simp))]; rfl
  have HO5 := Lib.hid hO5
  have HWE : Hid (w.heap.size ≤ w4.heap.size) := HU4.out.size
  have HK5 := Lib.hid k5
  have HSH1 := Lib.hid hsh
  clear hO5 k5 hsh
  go_wp2_with (refine append_rd rfl _ _ rfl w4.heap.size _ [] (by with_unfolding_all exact rfl) (own_empty _) _ q.b (by with_unfolding_all exact rfl) (HQ.out.upd0 (HS4.out.trans HO5.out)) (by have := HQB.out; simp; omega) (by simp) ?_)
  intro vq w6 hO6 _ hU6 _
  have hO6 : OwnB w6 w4.heap.size vq q.b := hO6
  have HWU : Hid (Upd [] w4 w6) := HO5.out.trans' hU6 (fun k hm hl => by simp [Value.ownBlock] at hm; omega)
  have HK4 := Lib.hid (HWU.out.heap HK4.out (by simp))
  have k5 := HWU.out.heap HK5.out (by simp)
  have HSH2 := Lib.hid (HWU.out.heap HSH1.out (by simp))
  have HM6 := Lib.hid (HM4.out.upd0 HWU.out)
  have HU6 : Hid (Upd m0.v.ownBlock.toList w w6) := HU4.out.trans0 HWU.out
  have HS6 := Lib.hid (HS4.out.trans HWU.out)
  have HV6 := Lib.hid hO6
  have hvq : vq.cells = #[vq] ∧ vq.oneCell' = true := by obtain ⟨a, q, e⟩ := hO6.isSlice; rw [e]; exact ⟨rfl, rfl⟩
  have hsq2 := size_msg q.id q.fr q.to vq
  have hsqL : (Try.prog.info? 32).map (·.size) = some (msgC q.id q.fr q.to vq).toList.length := size_msg4
  clear hO6 hU6 c5
  go_wp2_with (with_reducible refine arm_store_at (by with_unfolding_all exact rfl) (by with_unfolding_all exact rfl) k5 (by simp [msgC]) hvq.1 size_bytes1 hvq.2 ?_)
  intro w7 k5' hX7 hz7
  change w7.heap[b5]? = some (.cells (msgC q.id q.fr q.to vq) 32 (0, 0)) at k5'
  have k4 := hX7.heap HK4.out (fun hm => HN45.out (List.mem_singleton.1 hm))
  have hsh := hX7.heap HSH2.out (fun hm => heap_ne HSH2.out k5 (by decide) (List.mem_singleton.1 hm))
  have HM7 := Lib.hid (HM6.out.upd hX7 (fun k hk hm => cells_ne HM6.out k5 (by decide) (by rw [hk, List.mem_singleton.1 hm])))
  have HV7 := Lib.hid (HV6.out.upd hX7 (fun k hk hm => cells_ne HV6.out k5 (by decide) (by rw [hk, List.mem_singleton.1 hm])))
  have HU7 : Hid (Upd m0.v.ownBlock.toList w w7) := HU6.out.trans' hX7 (fun k hm hl => by have := List.mem_singleton.1 hm; have := HW5.out; omega)
  have HK5 := Lib.hid k5'
  clear hX7 hz7 k5 k5'
  have h1m : ∀ u ∈ (msgC m.id m.fr m.to m.v).toList, u.oneCell' = true := one_msgL _ _ _ hmo
  have h1q : ∀ u ∈ (msgC q.id q.fr q.to vq).toList, u.oneCell' = true := one_msgL _ _ _ hvq.2
  go_wp2_with (first
    | (with_reducible refine arm_load (by with_unfolding_all exact rfl) k4 Try.underlying32 (by with_unfolding_all exact rfl) hsm ?_)
    | (with_reducible refine arm_store_part (cs := (msgC m.id m.fr m.to m.v).toList) (by with_unfolding_all exact rfl) (by with_unfolding_all exact rfl) hsh (by with_unfolding_all exact rfl) (by simp [shL, msgC]) hms h1m ?_))
  intro w8 hsh8 hX8 hz8
  change w8.heap[bs]? = some (.cells (shL m q0 true).toArray 48 (0, 0)) at hsh8
  have HTS : Hid (∀ {k : Nat} {C : Array Value} {T : TypeId} {fr' : Nat × Nat}, w7.heap[k]? = some (.cells C T fr') → T ≠ 48 → k ∉ [bs]) := fun {k C T fr'} h1 h2 hm => heap_ne h1 hsh h2 (List.mem_singleton.1 hm)
  have HK4 := Lib.hid (hX8.heap k4 (HTS.out k4 (by decide)))
  have k5 := hX8.heap HK5.out (HTS.out HK5.out (by decide))
  have HM8 := Lib.hid (HM7.out.upd hX8 (fun k hk => by obtain ⟨C, fr', h1⟩ := own_type HM7.out hk; exact HTS.out h1 (by decide)))
  have HV8 := Lib.hid (HV7.out.upd hX8 (fun k hk => by obtain ⟨C, fr', h1⟩ := own_type HV7.out hk; exact HTS.out h1 (by decide)))
  have HU8 : Hid (Upd (bs :: m0.v.ownBlock.toList) w w8) := (HU7.out.mono (fun i hm _ => List.mem_cons_of_mem _ hm)).trans' hX8 (fun k hm hl => by rw [List.mem_singleton.1 hm]; simp)
  clear hX8 hz8 hsh k4
  go_wp2_with (first
    | (with_reducible refine arm_load (by with_unfolding_all exact rfl) k5 Try.underlying32 (by with_unfolding_all exact rfl) hsq2 ?_)
    | (with_reducible refine arm_store_part (cs := (msgC q.id q.fr q.to vq).toList) (by with_unfolding_all exact rfl) (by with_unfolding_all exact rfl) hsh8 (by with_unfolding_all exact rfl) (by simp [shL, msgC]) hsqL h1q ?_))
  intro w9 hsh9 hX9 hz9
  change w9.heap[bs]? = some (.cells (shL m ⟨q.id, q.fr, q.to, vq, q.b⟩ true).toArray 48 (0, 0)) at hsh9
  have HT9 : Hid (∀ {k : Nat} {C : Array Value} {T : TypeId} {fr' : Nat × Nat}, w8.heap[k]? = some (.cells C T fr') → T ≠ 48 → k ∉ [bs]) := fun {k C T fr'} h1 h2 hm => heap_ne h1 hsh8 h2 (List.mem_singleton.1 hm)
  have HK4 := Lib.hid (hX9.heap HK4.out (HT9.out HK4.out (by decide)))
  have HK5 := Lib.hid (hX9.heap k5 (HT9.out k5 (by decide)))
  have HM9 := Lib.hid (HM8.out.upd hX9 (fun k hk => by obtain ⟨C, fr', h1⟩ := own_type HM8.out hk; exact HT9.out h1 (by decide)))
  have HV9 := Lib.hid (HV8.out.upd hX9 (fun k hk => by obtain ⟨C, fr', h1⟩ := own_type HV8.out hk; exact HT9.out h1 (by decide)))
  have HU9 : Hid (Upd (bs :: m0.v.ownBlock.toList) w w9) := HU8.out.trans' hX9 (fun k hm hl => by rw [List.mem_singleton.1 hm]; simp)
  clear hX9 hz9 hsh8 k5
  go_wp2_with (with_reducible refine arm_store_at (by with_unfolding_all exact rfl) (by with_unfolding_all exact rfl) hsh9 (by simp [shL]) (by with_unfolding_all exact rfl) size_bool1 (by with_unfolding_all exact rfl) ?_)
  intro wa hsha hXa hza
  change wa.heap[bs]? = some (.cells (shL m ⟨q.id, q.fr, q.to, vq, q.b⟩ true).toArray 48 (0, 0)) at hsha
  have HTA : Hid (∀ {k : Nat} {C : Array Value} {T : TypeId} {fr' : Nat × Nat}, w9.heap[k]? = some (.cells C T fr') → T ≠ 48 → k ∉ [bs]) := fun {k C T fr'} h1 h2 hm => heap_ne h1 hsh9 h2 (List.mem_singleton.1 hm)
  have k4 := hXa.heap HK4.out (HTA.out HK4.out (by decide))
  have k5 := hXa.heap HK5.out (HTA.out HK5.out (by decide))
  have HMA := Lib.hid (HM9.out.upd hXa (fun k hk => by obtain ⟨C, fr', h1⟩ := own_type HM9.out hk; exact HTA.out h1 (by decide)))
  have HVA := Lib.hid (HV9.out.upd hXa (fun k hk => by obtain ⟨C, fr', h1⟩ := own_type HV9.out hk; exact HTA.out h1 (by decide)))
  have HUA : Hid (Upd (bs :: m0.v.ownBlock.toList) w wa) := HU9.out.trans' hXa (fun k hm hl => by rw [List.mem_singleton.1 hm]; simp)
  have HSHA := Lib.hid hsha
  clear hXa hza hsh9 hsha
  go_wp2_with (first
    | (with_reducible refine arm_load (by with_unfolding_all exact rfl) k4 Try.underlying32 (by with_unfolding_all exact rfl) hsm ?_)
    | (with_reducible refine arm_load (by with_unfolding_all exact rfl) k5 Try.underlying32 (by with_unfolding_all exact rfl) hsq2 ?_))
  refine (sameM_ _ m ⟨q.id, q.fr, q.to, vq, q.b⟩ HMA.out.rd HVA.out.rd (by have := HSH.out; omega) (by have := HQB.out; show q.b.length ≤ 1000000; omega)).mono ?_
  rintro e wb ⟨rfl, hUb⟩
  have heq : eqCore m ⟨q.id, q.fr, q.to, vq, q.b⟩ = true := (eqCore_iff _ _).2 HC.out
  rw [heq]
  have HUB := Lib.hid hUb
  clear hUb heq k4 k5
  go_wp2_with (fail)
  go_ret
  have hfr : ∀ k, vq.ownBlock = some k → w.heap.size ≤ k := fun k hk => by have h1 := (HV6.out.lt k hk).1; have := HWE.out; omega
  exact ⟨vq, rfl, ⟨HUB.out.heap HSHA.out (by simp), HMA.out.upd0 HUB.out, (HVA.out.upd0 HUB.out).mono (fun k hk => by have := hfr k hk; have := HL.out; omega), HC.out, HSH.out, fun e he k hk hk2 => HAP.out e he k hk hk2, fun k hk hk2 => by have h1 := (HM.out.lt k hk).2; have h2 := hfr k hk2; omega, H.out.low⟩, HUA.out.trans0 HUB.out⟩
end Go.Proofs.Ytjeddokenpkpnaa
