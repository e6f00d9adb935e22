/-
  Arms that hold in any program: loads and stores in the midst of a block, slices, one element more behind a row, structs built.
-/
import Derived.Test.YtjeddokenpkpnaaOwn
import Derived.Test.YtjeddokenpkpnaaMid
import Derived.Test.YtjeddokenpkpnaaArms
import Derived.Test.YtjeddokenpkpnaaHoist
import Derived.Test.YtjeddokenpkpnaaCut
import Derived.Great.FillDense
namespace Go.Proofs.Ytjeddokenpkpnaa
open Go Go.RowKit Go.Proofs
theorem arm_load_mid {P : Program} {ops : Array Oper} {rest : List Oper} {a : Act} {w : World} {Q : Exit → Act → World → Prop} {dst : Option Tmp} {ty type : TypeId} {pos : String} {after : Array Edge} {x : Operand} {g k : Nat} {cs : List Value} {d : TypeDesc}
    (hx : a.eval x = .pointer (some ⟨g, k, none⟩)) (hr : w.rangeAt g k cs) (hu : P.underlying ty = some d) (hd : d.isRow = true) (hi : (P.info? ty).map (·.size) = some cs.length)
    (h : wpList P ops Q rest (a.put dst (.agg cs.toArray)) w) : wpList P ops Q (⟨dst, .load ty x, type, pos, after, none⟩ :: rest) a w := by
  refine wpList_plain rfl fun K hK => ?_
  unfold Oper.wp execOp
  simp only [hx, Instr.loadAt, Instr.sureAddr, Sem.run_bind, Sem.run_pure, Result.andThen_ok, run_loadVar_mid w g k ty cs d hr hu hd hi]
  exact hK _ _ h
theorem arm_slice {P : Program} {ops : Array Oper} {rest : List Oper} {a : Act} {w : World} {Q : Exit → Act → World → Prop} {dst : Option Tmp} {ty type : TypeId} {pos : String} {after : Array Edge} {x : Operand} {lo hi mx : Option Operand} {v u : Value} {lo' hi' mx' : Option Value}
    (hx : a.eval x = v) (hl : lo.map a.eval = lo') (hh : hi.map a.eval = hi') (hm : mx.map a.eval = mx') (hr : ∀ W, (Instr.sliceAt ty v lo' hi' mx').run P W = .ok u W)
    (h : wpList P ops Q rest (a.put dst u) w) : wpList P ops Q (⟨dst, .slice ty x lo hi mx, type, pos, after, none⟩ :: rest) a w := by
  refine wpList_plain rfl fun K hK => ?_
  subst hl hh hm
  unfold Oper.wp execOp
  simp only [hx, hr, Sem.run_bind, Sem.run_pure, Result.andThen_ok]
  exact hK _ _ h
theorem yields_slice {P : Program} {S : World → Prop} {a : Act} {dst : Option Tmp} {ty type : TypeId} {pos : String} {after : Array Edge} {gd : Option (Nat × Bool)} {x : Operand} {lo hi mx : Option Operand} {v u : Value} {lo' hi' mx' : Option Value}
    (hx : a.eval x = v) (hl : lo.map a.eval = lo') (hh : hi.map a.eval = hi') (hm : mx.map a.eval = mx') (hr : ∀ W, (Instr.sliceAt ty v lo' hi' mx').run P W = .ok u W) :
    ∀ w, S w → (execOp a.eval ⟨dst, .slice ty x lo hi mx, type, pos, after, gd⟩).run P w = .ok (.value u) w := by
  intro w _
  subst hl hh hm
  unfold execOp
  simp only [hx, hr, Sem.run_bind, Sem.run_pure, Result.andThen_ok]
theorem arm_store_mid {P : Program} {ops : Array Oper} {rest : List Oper} {a : Act} {w : World} {Q : Exit → Act → World → Prop} {dst : Option Tmp} {ty type : TypeId} {pos : String} {after : Array Edge} {x y : Operand} {g k : Nat} {cells : Array Value}
    (hx : a.eval x = .pointer (some ⟨g, k, none⟩)) (hy : a.eval y = .agg cells) (ht : w.there g k cells.size) (hi : (P.info? ty).map (·.size) = some cells.size) (h1 : cells.all (·.oneCell') = true)
    (h : ∀ w', w' = w.setCells g k cells.toList → wpList P ops Q rest (a.put dst undef) w') : wpList P ops Q (⟨dst, .store ty x y, type, pos, after, none⟩ :: rest) a w := by
  refine wpList_plain rfl fun K hK => ?_
  unfold Oper.wp execOp
  simp only [hx, hy, Instr.storeAt, Instr.sureAddr, Sem.run_bind, Sem.run_pure, Result.andThen_ok, run_storeVar_mid w g k ty cells ht hi h1]
  exact hK _ _ (h _ rfl)
theorem yields_index {P : Program} {S : World → Prop} {a : Act} {dst : Option Tmp} {ty type e : TypeId} {pos : String} {after : Array Edge} {gd : Option (Nat × Bool)} {x y : Operand} {g o n c i size k : Nat} {u : Int}
    (ht : P.underlying ty = some (.slice e)) (he : P.elem ty = e) (hs : (P.info? e).map (·.size) = some size) (hx : a.eval x = .slice (some ⟨g, o, none⟩) n c) (hy : a.eval y = .int .i64 u) (hu : u = i) (hi : i < n) (hk : o + i * size = k) :
    ∀ w, S w → (execOp a.eval ⟨dst, .indexAddr ty x y, type, pos, after, gd⟩).run P w = .ok (.value (.pointer (some ⟨g, k, none⟩))) w := by
  intro w _
  subst hk hu he
  have hsz : (sizeOf (P.elem ty)).run P w = .ok size w := by
    cases hq : P.info? (P.elem ty) with
    | none => simp [hq] at hs
    | some j => have : j.size = size := by simpa [hq] using hs
                simp [sizeOf, typeInfo, hq, this]
  unfold execOp
  simp only [hx, hy, Sem.run_bind, Sem.run_pure, run_indexAt_slice (P := P) w ty _ n c .i64 i ht]
  have h1 : (0 : Int) ≤ i ∧ (i : Int) < n := by omega
  simp [h1, hsz, Result.andThen, Addr.add_lit]
theorem quiet_of_yields {P : Program} {C : World → Prop} {a : Act} {o : Oper} {v : Value} (h : ∀ w, C w → (execOp a.eval o).run P w = .ok (.value v) w) : ∀ w, C w → o.quietAt P a C w v := by
  intro w hw
  unfold Oper.quietAt
  rw [h w hw]
  exact ⟨rfl, rfl⟩
theorem arm_append1w {P : Program} {ops : Array Oper} {rest : List Oper} {a : Act} {w : World} {Q : Exit → Act → World → Prop} {dst : Option Tmp} {t type e : TypeId} {pos : String} {after : Array Edge} {s x : Operand} {i : TypeInfo} {z : Value} {size bytes B n g : Nat} {v : Value} {xs cs : List Value} {T : TypeId} {fr : Nat × Nat}
    (ht : P.underlying t = some (.slice e)) (hi : P.info? e = some i) (hz : i.zero = some z) (hsize : i.size = size) (hby : i.bytes = bytes) (hzs : z.cells.size = size) (hsz : 0 < size)
    (hs : a.eval s = v) (hx : a.eval x = .slice (some ⟨g, 0, none⟩) 1 1) (hown : w.ownsRow B e size v n xs) (hg : w.heap[g]? = some (.cells cs.toArray T fr)) (hl : cs.length = size) (h1 : ∀ u ∈ cs, u.oneCell' = true)
    (h63 : n + 1 ≤ maxLen) (hbytes : (n + 1) * bytes ≤ 140737488355328) (hbase : B ≤ w.heap.size)
    (h : ∀ v' w', w'.ownsRow B e size v' (n + 1) (xs ++ cs) → Upd v.ownBlock.toList w w' → (v'.ownBlock = v.ownBlock ∨ v'.ownBlock = some w.heap.size) → wpList P ops Q rest (a.put dst v') w') :
    wpList P ops Q (⟨dst, .call { callee := .builtin .append, args := #[s, x], argTypes := #[t, t] }, type, pos, after, none⟩ :: rest) a w :=
  wpList_append_keep rfl s x t rfl B e i z size bytes ht hi hz hsize hby hzs hsz v n xs hs hown ⟨g, 0, none⟩ 1 1 cs hx (by omega)
    (fun j u hj => by rw [Addr.add_lit, cell_of_row w g _ _ _ _ hg]; simpa using hj) h1 h63 hbytes hbase
    (fun v' w' h2 _ h4 h5 => h v' w' h2 ((Upd.refl _ w).grown h4 (fun k hk _ => by simp [hk])) h5.block)
theorem arm_build {P : Program} {ops : Array Oper} {rest : List Oper} {a : Act} {w : World} {Q : Exit → Act → World → Prop} {dst : Option Tmp} {ty type : TypeId} {pos : String} {after : Array Edge} {parts : Array (Nat × Operand)} {cs : Array Value}
    (hf : P.built ty (parts.map fun (i, x) => (i, a.eval x)).toList = some cs) (h : wpList P ops Q rest (a.put dst (.agg cs)) w) : wpList P ops Q (⟨dst, .build ty parts, type, pos, after, none⟩ :: rest) a w :=
  wpList_plain rfl fun _ hK => wp_build ty parts rfl (by rw [hf]; rfl) (by simp only [hf, Option.getD_some]; exact hK _ _ h)
theorem arm_build2 {P : Program} {ops : Array Oper} {rest : List Oper} {a : Act} {w : World} {Q : Exit → Act → World → Prop} {dst : Option Tmp} {ty type : TypeId} {pos : String} {after : Array Edge} {x0 x1 : Operand} {v0 v1 : Value} {cs : Array Value}
    (h0 : a.eval x0 = v0) (h1 : a.eval x1 = v1) (hf : P.built ty [(0, v0), (1, v1)] = some cs) (h : wpList P ops Q rest (a.put dst (.agg cs)) w) : wpList P ops Q (⟨dst, .build ty #[(0, x0), (1, x1)], type, pos, after, none⟩ :: rest) a w := by
  subst h0 h1
  exact arm_build (by simpa using hf) h
theorem wpQuiet_valK {P : Program} {ops : Array Oper} {C : World → Prop} {Q : Act → Prop} {a : Act} {o : Oper} {rest : List Oper} {v : Value} (hw : Region.wanted o (yielded ops a.tmps) = true) (h : ∀ w, C w → o.quietAt P a C w v)
    (hn : ∀ K : Act → Prop, (∀ a, wpQuiet P ops C Q rest a → K a) → K (a.put o.dst v)) : wpQuiet P ops C Q (o :: rest) a := wpQuiet_val hw h (hn _ fun _ h => h)
theorem arm_store_at {P : Program} {ops : Array Oper} {rest : List Oper} {a : Act} {w : World} {Q : Exit → Act → World → Prop} {dst : Option Tmp} {ty type : TypeId} {pos : String} {after : Array Edge} {x y : Operand} {g k : Nat} {t : TypeId} {cells : Array Value} {v : Value}
    (hx : a.eval x = .pointer (some ⟨g, k, none⟩)) (hy : a.eval y = v) (hg : w.heap[g]? = some (.cells cells t (0, 0))) (hk : k < cells.size) (hvc : v.cells = #[v]) (hi : (P.info? ty).map (·.size) = some 1) (h1 : v.oneCell' = true)
    (h : ∀ w', w'.heap[g]? = some (.cells (cells.setIfInBounds k v) t (0, 0)) → Upd [g] w w' → w'.heap.size = w.heap.size → wpList P ops Q rest (a.put dst undef) w') : wpList P ops Q (⟨dst, .store ty x y, type, pos, after, none⟩ :: rest) a w := by
  refine wpList_plain rfl fun K hK => ?_
  have hg' : w.heap[g]? = some (.cells cells.toList.toArray t (0, 0)) := by simpa using hg
  have hs : (storeVar ty ⟨g, k, none⟩ v).run P w = .ok () (w.setCells g k [v]) := by
    have := run_storeVar_mid (P := P) w g k ty #[v] (there_of_row hg' k 1 (by simpa using Nat.succ_le_of_lt hk)) hi (by simpa using h1)
    rw [← this]
    unfold storeVar
    rw [hvc]
    rfl
  unfold Oper.wp execOp
  simp only [hx, hy, Instr.storeAt, Instr.sureAddr, Sem.run_bind, Sem.run_pure, Result.andThen_ok, hs]
  refine hK _ _ (h _ ?_ ((Upd.refl _ w).setCells g k _ (by simp)) (setCells_size g _ k w))
  exact heap_setCell_any w g k t (0, 0) cells v hg
theorem quiet_build2 {P : Program} {C : World → Prop} {a : Act} {o : Oper} (ty : TypeId) (x0 x1 : Operand) (ho : o.op = .build ty #[(0, x0), (1, x1)]) {v0 v1 : Value} {cs : Array Value} (h0 : a.eval x0 = v0) (h1 : a.eval x1 = v1) (hf : P.built ty [(0, v0), (1, v1)] = some cs) :
    ∀ w, C w → o.quietAt P a C w (.agg cs) := by
  intro w hw
  subst h0 h1
  unfold Oper.quietAt execOp
  simp only [ho, Sem.run_bind, Sem.run_pure, Result.andThen_ok, List.map_toArray, List.map_cons, List.map_nil, run_build w ty #[(0, a.eval x0), (1, a.eval x1)] cs (by simpa using hf)]
  exact ⟨rfl, rfl⟩
end Go.Proofs.Ytjeddokenpkpnaa
