/-
  A Pair, built; one more behind a row of them.
-/
import Derived.Test.YtdfoffheolbokaaDoorEnds
namespace Go.Proofs.YtdfoffheolbokaaDoor
open Go Go.RowKit Go.Proofs
theorem info_pair : ∃ i, Tryd.prog.info? 48 = some i ∧ (∃ z, i.zero = some z ∧ z.cells.size = 64) ∧ i.size = 64 ∧ i.bytes = 64 := by
  have h : (Tryd.prog.info? 48).map (fun i => (i.zero.map (·.cells.size), i.size, i.bytes)) = some (some 64, 64, 64) := by kernel_rfl
  cases hq : Tryd.prog.info? 48 with
  | none => rw [hq] at h; cases h
  | some i =>
    rw [hq] at h
    simp only [Option.map_some, Option.some.injEq, Prod.mk.injEq] at h
    refine ⟨i, rfl, ?_, h.2.1, h.2.2⟩
    cases hz : i.zero with
    | none => rw [hz] at h; cases h.1
    | some z => rw [hz] at h; exact ⟨z, rfl, by simpa using h.1⟩
theorem pair_fields : ∃ f0 f1, Tryd.prog.underlying 48 = some (.struct #[f0, f1]) ∧ f0.type = 27 ∧ f1.type = 27 ∧ f0.offset = 0 ∧ f1.offset = 32 := ⟨_, _, Tryd.underlying48, rfl, rfl, rfl, rfl⟩
theorem built_pair (x y : H8) (hx : x.length = 32) (hy : y.length = 32) : Tryd.prog.built 48 [(0, .agg (x.map U8).toArray), (1, .agg (y.map U8).toArray)] = some ((x ++ y).map U8).toArray := by
  obtain ⟨i, hi, ⟨z, hz, hzc⟩, hs, _⟩ := info_pair
  obtain ⟨f0, f1, hu, t0, t1, o0, o1⟩ := pair_fields
  obtain ⟨ih, hih, _, hsh, _⟩ := info_hash
  have := built_two (P := Tryd.prog) (s0 := 32) (s1 := 32) (v0 := .agg (x.map U8).toArray) (v1 := .agg (y.map U8).toArray) hi hu hz (by rw [t0]; exact hih) (by rw [t1]; exact hih) o0 o1 hsh hsh hzc (by simp [Value.cells, hx]) (by simp [Value.cells, hy])
  rw [this]
  simp [Value.cells]
/-- a value of a row, built, that stands in every world -/
theorem yields_build {P : Program} {S : World → Prop} {a : Act} {dst : Option Tmp} {ty type : TypeId} {pos : String} {after : Array Edge} {gd : Option (Nat × Bool)} {parts : Array (Nat × Operand)} {cs : Array Value}
    (hf : P.built ty (parts.map fun (i, x) => (i, a.eval x)).toList = some cs) : ∀ w, S w → (execOp a.eval ⟨dst, .build ty parts, type, pos, after, gd⟩).run P w = .ok (.value (.agg cs)) w := by
  intro w _
  unfold execOp
  simp only [Sem.run_bind, Sem.run_pure, Result.andThen_ok, run_build w ty _ cs hf]
/-- one pair, laid into a new block -/
theorem bsP {ops : Array Oper} {rest : List Oper} {a : Act} {w : World} {Q : Exit → Act → World → Prop} {dst : Option Tmp} {type : TypeId} {pos : String} {after : Array Edge} {x1 : Operand} {l : List (BitVec 8)} {cs : Array Value} (hcs : (l.map U8).toArray = cs) (hll : l.length = 64) (h1 : a.eval x1 = .agg cs)
    (h : ∀ g w', w.heap.size = g → w'.heap[g]? = some (.cells (l.map U8).toArray 48 (0, 0)) → Upd [] w w' → wpList Tryd.prog ops Q rest (a.put dst (.slice (some ⟨g, 0, none⟩) 1 1)) w') :
    wpList Tryd.prog ops Q (⟨dst, .buildSlice 43 1 #[(0, x1)], type, pos, after, none⟩ :: rest) a w := by
  subst hcs
  obtain ⟨i, hi, ⟨z, hz, hzc⟩, hs, hby⟩ := info_pair
  refine wpList_buildSlice rfl 43 48 1 _ rfl (l.map U8).toArray i z Tryd.underlying43 hi hz (by rw [hs]; decide) (by rw [hs]; decide) ?_ (h _ _ rfl (hget_new rfl) ((Upd.refl _ w).alloc _))
  have := Great.fill_whole (s := 64) (by omega) [.agg (l.map U8).toArray] ((Array.range (1 * i.size)).map (z.cells[· % z.cells.size]!)) (fun v hv => by rw [List.mem_singleton.1 hv]; simp [Value.cells, hll]) (by rw [hs]; simp)
  simp only [List.map_toArray, List.map_cons, List.map_nil, h1, hs]
  rw [hs] at this
  simpa [Value.cells] using this
/-- one pair more behind a row of them -/
theorem appendP {ops : Array Oper} {rest : List Oper} {a : Act} {w : World} {Q : Exit → Act → World → Prop} {dst : Option Tmp} {type : TypeId} {pos : String} {after : Array Edge} {s x : Operand} {B g : Nat} {v : Value} {l : List (H8 × H8)} {y1 y2 : H8} {T : TypeId} {fr : Nat × Nat}
    (hs : a.eval s = v) (hx : a.eval x = .slice (some ⟨g, 0, none⟩) 1 1) (hown : OwnP w B v l) (hg : w.heap[g]? = some (.cells ((y1 ++ y2).map U8).toArray T fr)) (h1y : y1.length = 32) (h2y : y2.length = 32) (hl : l.length ≤ 1000000) (hbase : B ≤ w.heap.size)
    (h : ∀ v' w', OwnP w' B v' (l ++ [(y1, y2)]) → Upd v.ownBlock.toList w w' → wpList Tryd.prog ops Q rest (a.put dst v') w') :
    wpList Tryd.prog ops Q (⟨dst, .call { callee := .builtin .append, args := #[s, x], argTypes := #[43, 43] }, type, pos, after, none⟩ :: rest) a w := by
  obtain ⟨i, hi, ⟨z, hz, hzc⟩, hsz, hby⟩ := info_pair
  refine arm_append1 Tryd.underlying43 hi hz hsz hby hzc (by omega) hs hx hown.2 hg (by simp [h1y, h2y]) (fun u hu => by obtain ⟨b, _, rfl⟩ := List.mem_map.1 hu; rfl) (by simp [maxLen]; omega) (by omega) hbase (fun v' w' h1 h2 => h v' w' ⟨fun z hz => ?_, ?_⟩ h2)
  · rw [hs2_append] at hz
    rcases List.mem_append.1 hz with hz | hz
    · exact hown.1 z hz
    · simp [hs2] at hz
      rcases hz with rfl | rfl
      · exact h1y
      · exact h2y
  · rw [List.length_append, hs2_append, List.flatten_append, List.map_append]
    simpa [hs2] using h1
end Go.Proofs.YtdfoffheolbokaaDoor
