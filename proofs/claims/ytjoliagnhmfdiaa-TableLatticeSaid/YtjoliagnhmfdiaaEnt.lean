/-
  Certificates and entries: their cells, and '==' between them.
-/
import Derived.Test.YtjoliagnhmfdiaaSeal
import Derived.Laws.StructEq
namespace Go.Proofs.Ytjoliagnhmfdiaa
open Go Go.RowKit Go.Proofs
structure Crt where
  serial : Int
  rides : Int
  price : Int
  anchor : List (BitVec 8)
  sig : List (BitVec 8)
def Crt.ok (c : Crt) : Prop := c.anchor.length = 32 ∧ c.sig.length = 64
def crtC (c : Crt) : List Value := .int .i64 c.serial :: .int .i64 c.rides :: .int .i64 c.price :: (c.anchor.map U8 ++ c.sig.map U8)
def crtEq (c d : Crt) : Bool := (c.serial == d.serial) && ((c.rides == d.rides) && ((c.price == d.price) && ((c.anchor == d.anchor) && (c.sig == d.sig))))
structure Ent where
  crt : Crt
  idx : Int
  val : List (BitVec 8)
  fz : Bool
  fs : List (BitVec 8)
  rv : Bool
  rs : List (BitVec 8)
def Ent.ok (e : Ent) : Prop := e.crt.ok ∧ e.val.length = 32 ∧ e.fs.length = 64 ∧ e.rs.length = 64
def entC (e : Ent) : List Value := crtC e.crt ++ (markC e.idx e.val ++ (sealC e.fz e.fs ++ sealC e.rv e.rs))
def entEq (e f : Ent) : Bool := crtEq e.crt f.crt && ((e.idx == f.idx) && ((e.val == f.val) && ((e.fz == f.fz) && ((e.fs == f.fs) && ((e.rv == f.rv) && (e.rs == f.rs))))))
theorem crtEq_iff (c d : Crt) : crtEq c d = true ↔ c = d := by
  cases c; cases d; simp [crtEq]
theorem entEq_iff (e f : Ent) : entEq e f = true ↔ e = f := by
  cases e; cases f; simp [entEq, crtEq_iff]
theorem crtC_length {c : Crt} (h : c.ok) : (crtC c).length = 99 := by simp [crtC, h.1, h.2]
theorem entC_length {e : Ent} (h : e.ok) : (entC e).length = 262 := by
  simp [entC, crtC_length h.1, markC_length h.2.1, sealC_length h.2.2.1, sealC_length h.2.2.2]
theorem crtC_one (c : Crt) : ∀ u ∈ crtC c, u.oneCell' = true := by
  intro u hu
  simp only [crtC, List.mem_cons, List.mem_append, List.mem_map] at hu
  rcases hu with rfl | rfl | rfl | ⟨b, _, rfl⟩ | ⟨b, _, rfl⟩ <;> rfl
theorem entC_one (e : Ent) : ∀ u ∈ entC e, u.oneCell' = true := by
  intro u hu
  simp only [entC, markC, sealC, List.mem_cons, List.mem_append, List.mem_map] at hu
  rcases hu with hu | hu | hu | hu
  · exact crtC_one _ u hu
  · rcases hu with rfl | ⟨b, _, rfl⟩ <;> rfl
  · rcases hu with rfl | ⟨b, _, rfl⟩ <;> rfl
  · rcases hu with rfl | ⟨b, _, rfl⟩ <;> rfl
theorem all_of_one {l : List Value} (h : ∀ u ∈ l, u.oneCell' = true) : l.toArray.all (·.oneCell') = true := by
  rw [Array.all_eq_true]
  intro k hk
  exact h _ (by simp)
theorem size_crt : (Try.prog.info? 27).map (·.size) = some 99 := by kernel_rfl
theorem size_ent : (Try.prog.info? 29).map (·.size) = some 262 := by kernel_rfl
theorem size_hash32 : (Try.prog.info? 23).map (·.size) = some 32 := by kernel_rfl
theorem info_of {T : TypeId} {n : Nat} (h : (Try.prog.info? T).map (·.size) = some n) : ∃ i, Try.prog.info? T = some i ∧ i.size = n := by
  cases hq : Try.prog.info? T with
  | none => rw [hq] at h; cases h
  | some i => rw [hq] at h; exact ⟨i, rfl, by simpa using h⟩
theorem part_agg {T : TypeId} {d : TypeDesc} {n : Nat} (w : World) (L : List Value) (o : Nat) (l : List Value) (hu : Try.prog.underlying T = some d) (hd : (match d with | .struct _ | .array _ _ => true | _ => false) = true) (hs : (Try.prog.info? T).map (·.size) = some n) (hc : (L.drop o).take n = l) :
    (part T L.toArray o).run Try.prog w = .ok (.agg l.toArray) w := by
  obtain ⟨i, hi, hsz⟩ := info_of hs
  subst hc
  unfold part
  cases d <;> simp at hd <;> simp [isAgg, run_underlying hu w, sizeOf, typeInfo, hi, hsz, Sem.run_bind]
theorem part_cell {T : TypeId} {d : TypeDesc} (w : World) (L : List Value) (o : Nat) (v : Value) (hu : Try.prog.underlying T = some d) (hd : (match d with | .struct _ | .array _ _ => true | _ => false) = false) (hc : L[o]? = some v) :
    (part T L.toArray o).run Try.prog w = .ok v w := by
  unfold part
  cases d <;> simp at hd <;> simp [isAgg, run_underlying hu w, Sem.run_bind, hc]
theorem equalIn_row {T : TypeId} {n : Nat} (w : World) (d : Nat) (x y : List (BitVec 8)) (hT : Try.prog.underlying T = some (.array n 5)) (hx : x.length = n) (hy : y.length = n) : (Op.equalIn (d + 2) T (.agg (x.map U8).toArray) (.agg (y.map U8).toArray)).run Try.prog w = .ok (x == y) w := by
  obtain ⟨i, hi, hs⟩ := info_of (T := 5) (n := 1) (by kernel_rfl)
  have hc : Try.prog.cellsOf 5 = 1 := by simp [Program.cellsOf, hi, hs]
  have h1 := run_equalIn_array (P := Try.prog) w (d + 1) (x.map U8).toArray (y.map U8).toArray hT hi
  rw [show d + 2 = d + 1 + 1 from rfl, h1, hc]
  have h2 := run_eqItems_words (P := Try.prog) (m := 8) w d Try.underlying5 x y (List.range n) (fun j hj => by have := List.mem_range.1 hj; omega)
  rw [all_range_eq x y n hx hy] at h2
  exact h2
theorem eqFields_cons {P : Program} (w : World) (d : Nat) (xs ys : Array Value) (f : Field) (fs : List Field) (a b : Value) (r q : Bool) (n0 : f.name ≠ "_")
    (ha : (part f.type xs f.offset).run P w = .ok a w) (hb : (part f.type ys f.offset).run P w = .ok b w) (e : (Op.equalIn d f.type a b).run P w = .ok r w) (h : (Op.eqFields d xs ys fs).run P w = .ok q w) :
    (Op.eqFields d xs ys (f :: fs)).run P w = .ok (r && q) w := by
  unfold Op.eqFields
  rw [if_pos n0]
  rw [Sem.run_bind, ha, Result.andThen_ok, Sem.run_bind, hb, Result.andThen_ok, Sem.run_bind, e, Result.andThen_ok]
  cases r
  · rfl
  · rw [if_neg (by decide), h]
    rfl
theorem eqFields_last {P : Program} (w : World) (d : Nat) (xs ys : Array Value) (f : Field) (a b : Value) (r : Bool) (n0 : f.name ≠ "_")
    (ha : (part f.type xs f.offset).run P w = .ok a w) (hb : (part f.type ys f.offset).run P w = .ok b w) (e : (Op.equalIn d f.type a b).run P w = .ok r w) :
    (Op.eqFields d xs ys [f]).run P w = .ok r w := by
  have := eqFields_cons w d xs ys f [] a b r true n0 ha hb e (by unfold Op.eqFields; rfl)
  simpa using this
theorem equalIn_crt (w : World) (d : Nat) (c e : Crt) (hc : c.ok) (he : e.ok) : (Op.equalIn (d + 3) 27 (.agg (crtC c).toArray) (.agg (crtC e).toArray)).run Try.prog w = .ok (crtEq c e) w := by
  have hu : Try.prog.underlying 27 = some (.struct (Try.prog.fieldsOf 27)) := by kernel_rfl
  have hp : Try.prog.stoodInHeld 27 = false := by kernel_rfl
  have hf : ∃ f0 f1 f2 f3 f4 : Field, (Try.prog.fieldsOf 27).toList = [f0, f1, f2, f3, f4] ∧ (f0.type = 3 ∧ f0.offset = 0 ∧ f0.name ≠ "_") ∧ (f1.type = 3 ∧ f1.offset = 1 ∧ f1.name ≠ "_") ∧ (f2.type = 2 ∧ f2.offset = 2 ∧ f2.name ≠ "_") ∧ (f3.type = 23 ∧ f3.offset = 3 ∧ f3.name ≠ "_") ∧ (f4.type = 25 ∧ f4.offset = 35 ∧ f4.name ≠ "_") := by
    unfold Program.fieldsOf
    rw [Try.underlying27]
    exact ⟨_, _, _, _, _, rfl, ⟨rfl, rfl, by decide⟩, ⟨rfl, rfl, by decide⟩, ⟨rfl, rfl, by decide⟩, ⟨rfl, rfl, by decide⟩, ⟨rfl, rfl, by decide⟩⟩
  obtain ⟨f0, f1, f2, f3, f4, hl, ⟨t0, o0, n0⟩, ⟨t1, o1, n1⟩, ⟨t2, o2, n2⟩, ⟨t3, o3, n3⟩, ⟨t4, o4, n4⟩⟩ := hf
  have h := run_equalIn_struct (P := Try.prog) w (d + 2) 27 (crtC c).toArray (crtC e).toArray hu hp
  rw [hl] at h
  rw [h]
  have P3 : ∀ x : Crt, x.ok → (part f3.type (crtC x).toArray f3.offset).run Try.prog w = .ok (.agg (x.anchor.map U8).toArray) w := fun x hx => by
    rw [t3, o3]
    exact part_agg w (crtC x) 3 _ Try.underlying23 rfl size_hash32 (by simp [crtC, hx.1])
  have P4 : ∀ x : Crt, x.ok → (part f4.type (crtC x).toArray f4.offset).run Try.prog w = .ok (.agg (x.sig.map U8).toArray) w := fun x hx => by
    rw [t4, o4]
    exact part_agg w (crtC x) 35 _ Try.underlying25 rfl size_sig (by simp [crtC, hx.1, List.take_of_length_le, hx.2])
  refine eqFields_cons w (d + 2) _ _ f0 _ (.int .i64 c.serial) (.int .i64 e.serial) _ _ n0 (by rw [t0, o0]; exact part_cell w _ _ _ Try.underlying3 rfl rfl) (by rw [t0, o0]; exact part_cell w _ _ _ Try.underlying3 rfl rfl) (by rw [t0]; exact run_equalIn_int w (d + 1) _ _ _ _ _ Try.underlying3) ?_
  refine eqFields_cons w (d + 2) _ _ f1 _ (.int .i64 c.rides) (.int .i64 e.rides) _ _ n1 (by rw [t1, o1]; exact part_cell w _ _ _ Try.underlying3 rfl rfl) (by rw [t1, o1]; exact part_cell w _ _ _ Try.underlying3 rfl rfl) (by rw [t1]; exact run_equalIn_int w (d + 1) _ _ _ _ _ Try.underlying3) ?_
  refine eqFields_cons w (d + 2) _ _ f2 _ (.int .i64 c.price) (.int .i64 e.price) _ _ n2 (by rw [t2, o2]; exact part_cell w _ _ _ Try.underlying2 rfl rfl) (by rw [t2, o2]; exact part_cell w _ _ _ Try.underlying2 rfl rfl) (by rw [t2]; exact run_equalIn_int w (d + 1) _ _ _ _ _ Try.underlying2) ?_
  refine eqFields_cons w (d + 2) _ _ f3 _ _ _ _ _ n3 (P3 c hc) (P3 e he) (by rw [t3]; exact equalIn_row w d _ _ Try.underlying23 hc.1 he.1) ?_
  exact eqFields_last w (d + 2) _ _ f4 _ _ _ n4 (P4 c hc) (P4 e he) (by rw [t4]; exact equalIn_row w d _ _ Try.underlying25 hc.2 he.2)
theorem ent_parts (e : Ent) (h : e.ok) : (entC e).drop 0 = entC e ∧ ((entC e).drop 0).take 99 = crtC e.crt ∧ (entC e)[99]? = some (.int .i64 e.idx) ∧ ((entC e).drop 100).take 32 = e.val.map U8 ∧ (entC e)[132]? = some (.bool e.fz) ∧ ((entC e).drop 133).take 64 = e.fs.map U8 ∧ (entC e)[197]? = some (.bool e.rv) ∧ ((entC e).drop 198).take 64 = e.rs.map U8 := by
  have hc := crtC_length h.1
  obtain ⟨_, hv, hf, hr⟩ := h
  generalize hC : crtC e.crt = C at hc
  have e1 : entC e = C ++ (.int .i64 e.idx :: (e.val.map U8 ++ (.bool e.fz :: (e.fs.map U8 ++ (.bool e.rv :: e.rs.map U8))))) := by simp [entC, hC, markC, sealC]
  rw [e1]
  have d1 : ∀ (k : Nat) (L : List Value), (C ++ L).drop (99 + k) = L.drop k := fun k L => by rw [← hc, List.drop_append]; simp
  have g1 : ∀ (k : Nat) (L : List Value), (C ++ L)[99 + k]? = L[k]? := fun k L => by rw [List.getElem?_append_right (by omega)]; congr 1; omega
  have d2 : ∀ (k : Nat) (L : List Value), (e.val.map U8 ++ L).drop (32 + k) = L.drop k := fun k L => by rw [show 32 + k = (e.val.map U8).length + k by simp [hv], List.drop_append]; simp
  have g2 : ∀ (k : Nat) (L : List Value), (e.val.map U8 ++ L)[32 + k]? = L[k]? := fun k L => by rw [List.getElem?_append_right (by simp; omega)]; congr 1; simp; omega
  have d3 : ∀ (k : Nat) (L : List Value), (e.fs.map U8 ++ L).drop (64 + k) = L.drop k := fun k L => by rw [show 64 + k = (e.fs.map U8).length + k by simp [hf], List.drop_append]; simp
  have g3 : ∀ (k : Nat) (L : List Value), (e.fs.map U8 ++ L)[64 + k]? = L[k]? := fun k L => by rw [List.getElem?_append_right (by simp; omega)]; congr 1; simp; omega
  refine ⟨rfl, ?_, ?_, ?_, ?_, ?_, ?_, ?_⟩
  · rw [List.drop_zero, List.take_left' hc]
  · exact g1 0 _
  · rw [d1 1, List.drop_succ_cons, List.drop_zero, List.take_left' (by simp [hv])]
  · have := g1 33 (.int .i64 e.idx :: (e.val.map U8 ++ (.bool e.fz :: (e.fs.map U8 ++ (.bool e.rv :: e.rs.map U8)))))
    rw [this, List.getElem?_cons_succ]
    exact g2 0 _
  · rw [d1 34, List.drop_succ_cons, d2 1, List.drop_succ_cons, List.drop_zero, List.take_left' (by simp [hf])]
  · have := g1 98 (.int .i64 e.idx :: (e.val.map U8 ++ (.bool e.fz :: (e.fs.map U8 ++ (.bool e.rv :: e.rs.map U8)))))
    rw [this, List.getElem?_cons_succ, g2 65, List.getElem?_cons_succ]
    exact g3 0 _
  · rw [d1 99, List.drop_succ_cons, d2 66, List.drop_succ_cons, d3 1, List.drop_succ_cons, List.drop_zero, List.take_of_length_le (by simp [hr])]
theorem ent_fields : ∃ f0 f1 f2 f3 f4 f5 f6 : Field, (Try.prog.fieldsOf 29).toList = [f0, f1, f2, f3, f4, f5, f6] ∧ (f0.type = 27 ∧ f0.offset = 0 ∧ f0.name ≠ "_") ∧ (f1.type = 3 ∧ f1.offset = 99 ∧ f1.name ≠ "_") ∧ (f2.type = 23 ∧ f2.offset = 100 ∧ f2.name ≠ "_") ∧ (f3.type = 4 ∧ f3.offset = 132 ∧ f3.name ≠ "_") ∧ (f4.type = 25 ∧ f4.offset = 133 ∧ f4.name ≠ "_") ∧ (f5.type = 4 ∧ f5.offset = 197 ∧ f5.name ≠ "_") ∧ (f6.type = 25 ∧ f6.offset = 198 ∧ f6.name ≠ "_") := by
  unfold Program.fieldsOf
  rw [Try.underlying29]
  exact ⟨_, _, _, _, _, _, _, rfl, ⟨rfl, rfl, by decide⟩, ⟨rfl, rfl, by decide⟩, ⟨rfl, rfl, by decide⟩, ⟨rfl, rfl, by decide⟩, ⟨rfl, rfl, by decide⟩, ⟨rfl, rfl, by decide⟩, ⟨rfl, rfl, by decide⟩⟩
theorem equalIn_ent (w : World) (d : Nat) (c e : Ent) (hc : c.ok) (he : e.ok) : (Op.equalIn (d + 4) 29 (.agg (entC c).toArray) (.agg (entC e).toArray)).run Try.prog w = .ok (entEq c e) w := by
  have hu : Try.prog.underlying 29 = some (.struct (Try.prog.fieldsOf 29)) := by kernel_rfl
  have hp : Try.prog.stoodInHeld 29 = false := by kernel_rfl
  obtain ⟨f0, f1, f2, f3, f4, f5, f6, hl, ⟨t0, o0, n0⟩, ⟨t1, o1, n1⟩, ⟨t2, o2, n2⟩, ⟨t3, o3, n3⟩, ⟨t4, o4, n4⟩, ⟨t5, o5, n5⟩, ⟨t6, o6, n6⟩⟩ := ent_fields
  have h := run_equalIn_struct (P := Try.prog) w (d + 3) 29 (entC c).toArray (entC e).toArray hu hp
  rw [hl] at h
  rw [h]
  obtain ⟨_, c0, c1, c2, c3, c4, c5, c6⟩ := ent_parts c hc
  obtain ⟨_, e0, e1, e2, e3, e4, e5, e6⟩ := ent_parts e he
  refine eqFields_cons w (d + 3) _ _ f0 _ _ _ _ _ n0 (by rw [t0, o0]; exact part_agg w _ _ _ Try.underlying27 rfl size_crt c0) (by rw [t0, o0]; exact part_agg w _ _ _ Try.underlying27 rfl size_crt e0) (by rw [t0]; exact equalIn_crt w d _ _ hc.1 he.1) ?_
  refine eqFields_cons w (d + 3) _ _ f1 _ _ _ _ _ n1 (by rw [t1, o1]; exact part_cell w _ _ _ Try.underlying3 rfl c1) (by rw [t1, o1]; exact part_cell w _ _ _ Try.underlying3 rfl e1) (by rw [t1]; exact run_equalIn_int w (d + 2) _ _ _ _ _ Try.underlying3) ?_
  refine eqFields_cons w (d + 3) _ _ f2 _ _ _ _ _ n2 (by rw [t2, o2]; exact part_agg w _ _ _ Try.underlying23 rfl size_hash32 c2) (by rw [t2, o2]; exact part_agg w _ _ _ Try.underlying23 rfl size_hash32 e2) (by rw [t2]; exact equalIn_row w (d + 1) _ _ Try.underlying23 hc.2.1 he.2.1) ?_
  refine eqFields_cons w (d + 3) _ _ f3 _ _ _ _ _ n3 (by rw [t3, o3]; exact part_cell w _ _ _ Try.underlying4 rfl c3) (by rw [t3, o3]; exact part_cell w _ _ _ Try.underlying4 rfl e3) (by rw [t3]; exact run_equalIn_bool' w (d + 2) _ _ _ Try.underlying4) ?_
  refine eqFields_cons w (d + 3) _ _ f4 _ _ _ _ _ n4 (by rw [t4, o4]; exact part_agg w _ _ _ Try.underlying25 rfl size_sig c4) (by rw [t4, o4]; exact part_agg w _ _ _ Try.underlying25 rfl size_sig e4) (by rw [t4]; exact equalIn_row w (d + 1) _ _ Try.underlying25 hc.2.2.1 he.2.2.1) ?_
  refine eqFields_cons w (d + 3) _ _ f5 _ _ _ _ _ n5 (by rw [t5, o5]; exact part_cell w _ _ _ Try.underlying4 rfl c5) (by rw [t5, o5]; exact part_cell w _ _ _ Try.underlying4 rfl e5) (by rw [t5]; exact run_equalIn_bool' w (d + 2) _ _ _ Try.underlying4) ?_
  exact eqFields_last w (d + 3) _ _ f6 _ _ _ n6 (by rw [t6, o6]; exact part_agg w _ _ _ Try.underlying25 rfl size_sig c6) (by rw [t6, o6]; exact part_agg w _ _ _ Try.underlying25 rfl size_sig e6) (by rw [t6]; exact equalIn_row w (d + 1) _ _ Try.underlying25 hc.2.2.2 he.2.2.2)
theorem neq_crt (w : World) (c e : Crt) (hc : c.ok) (he : e.ok) : (binOp .neq 27 (.agg (crtC c).toArray) (.agg (crtC e).toArray)).run Try.prog w = .ok (.bool !(crtEq c e)) w := by
  rw [run_neq_struct, show (10000 : Nat) = 9997 + 3 from rfl, equalIn_crt w 9997 c e hc he]
  rfl
theorem eql_ent (w : World) (c e : Ent) (hc : c.ok) (he : e.ok) : (binOp .eql 29 (.agg (entC c).toArray) (.agg (entC e).toArray)).run Try.prog w = .ok (.bool (entEq c e)) w := by
  rw [run_eql_struct, show (10000 : Nat) = 9996 + 4 from rfl, equalIn_ent w 9996 c e hc he]
  rfl
theorem neq_ent (w : World) (c e : Ent) (hc : c.ok) (he : e.ok) : (binOp .neq 29 (.agg (entC c).toArray) (.agg (entC e).toArray)).run Try.prog w = .ok (.bool !(entEq c e)) w := by
  rw [run_neq_struct, show (10000 : Nat) = 9996 + 4 from rfl, equalIn_ent w 9996 c e hc he]
  rfl
theorem guard_crt (op : BinOp) (x y : Operand) (A B : Array Value) (w : World) : (eqGuard op 27 x y (.agg A) (.agg B)).run Try.prog w = .ok () w := run_eqGuard_agg w op _ x y A B (by kernel_rfl)
theorem guard_ent (op : BinOp) (x y : Operand) (A B : Array Value) (w : World) : (eqGuard op 29 x y (.agg A) (.agg B)).run Try.prog w = .ok () w := run_eqGuard_agg w op _ x y A B (by kernel_rfl)
end Go.Proofs.Ytjoliagnhmfdiaa
