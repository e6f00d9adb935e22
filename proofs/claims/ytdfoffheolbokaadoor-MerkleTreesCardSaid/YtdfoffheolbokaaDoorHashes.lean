/-
  Slices of hashes that can be read: their elements, their cuts.
-/
import Derived.Test.YtdfoffheolbokaaDoorNode
import Derived.Test.YtdfoffheolbokaaDoorCut
import Derived.Test.YtdfoffheolbokaaDoorMid
namespace Go.Proofs.YtdfoffheolbokaaDoor
open Go Go.RowKit Go.Proofs
theorem flat_length : ∀ (ls : List H8), (∀ x ∈ ls, x.length = 32) → ls.flatten.length = 32 * ls.length
  | [], _ => rfl
  | x :: r, h => by
    have h1 := h x (by simp)
    have h2 := flat_length r (fun y hy => h y (by simp [hy]))
    simp only [List.flatten_cons, List.length_append, List.length_cons]; omega
theorem flat_drop : ∀ (ls : List H8) (i : Nat), (∀ x ∈ ls, x.length = 32) → (ls.drop i).flatten = ls.flatten.drop (32 * i)
  | [], i, _ => by simp
  | x :: r, 0, _ => by simp
  | x :: r, i + 1, h => by
    have h1 := h x (by simp)
    rw [List.drop_succ_cons, flat_drop r i (fun y hy => h y (by simp [hy])), List.flatten_cons, show 32 * (i + 1) = x.length + 32 * i by omega, List.drop_append, show x.drop (x.length + 32 * i) = [] from List.drop_eq_nil_of_le (by omega), List.nil_append, Nat.add_sub_cancel_left]
theorem flat_take (ls : List H8) (i : Nat) (h : ∀ x ∈ ls, x.length = 32) : (ls.take i).flatten = ls.flatten.take (32 * i) := by
  have e := flat_drop ls i h
  have e2 : ls.flatten = (ls.take i).flatten ++ (ls.drop i).flatten := by rw [← List.flatten_append, List.take_append_drop]
  by_cases hi : i ≤ ls.length
  · have hl := flat_length (ls.take i) (fun x hx => h x (List.mem_of_mem_take hx))
    rw [e2, List.take_left' (by rw [hl]; simp; omega)]
  · rw [List.take_of_length_le (by omega), List.take_of_length_le (by rw [flat_length ls h]; omega)]
theorem flat_get (ls : List H8) (i : Nat) (hi : i < ls.length) (h : ∀ x ∈ ls, x.length = 32) : (ls.flatten.drop (32 * i)).take 32 = ls[i] := by
  rw [← flat_drop ls i h, List.drop_eq_getElem_cons hi, List.flatten_cons, List.take_left' (h _ (List.getElem_mem _))]
/-- a slice of hashes that can be read -/
def RdH (w : World) (v : Value) (ls : List H8) : Prop := (∀ x ∈ ls, x.length = 32) ∧ ∃ A c, v = .slice A ls.length c ∧ ls.length ≤ c ∧ c ≤ maxLen ∧ (0 < ls.length → ∃ g p, A = some ⟨g, p, none⟩ ∧ Bytes w g p ls.flatten)
theorem RdH.nil (w : World) : RdH w (.slice none 0 0) [] := ⟨by simp, none, 0, rfl, Nat.le_refl _, by simp [maxLen], fun h => by simp at h⟩
theorem RdH.upd {w w' : World} {v : Value} {ls : List H8} {S : List Nat} (h : RdH w v ls) (u : Upd S w w') (hn : 0 < ls.length → ∀ k, v.ownBlock = some k → k ∉ S) : RdH w' v ls := by
  obtain ⟨hl, A, c, rfl, h1, h2, h3⟩ := h
  refine ⟨hl, A, c, rfl, h1, h2, fun hp => ?_⟩
  obtain ⟨g, p, rfl, hb⟩ := h3 hp
  exact ⟨g, p, rfl, hb.upd u (hn hp g rfl)⟩
theorem RdH.upd0 {w w' : World} {v : Value} {ls : List H8} (h : RdH w v ls) (u : Upd [] w w') : RdH w' v ls := h.upd u (by simp)
theorem RdH.isSlice {w : World} {v : Value} {ls : List H8} (h : RdH w v ls) : ∃ A c, v = .slice A ls.length c ∧ ls.length ≤ c ∧ c ≤ maxLen := by
  obtain ⟨_, A, c, e, h1, h2, _⟩ := h; exact ⟨A, c, e, h1, h2⟩
theorem RdH.at {w : World} {v : Value} {ls : List H8} (h : RdH w v ls) (hn : 0 < ls.length) : ∃ g p c, v = .slice (some ⟨g, p, none⟩) ls.length c ∧ ls.length ≤ c ∧ c ≤ maxLen ∧ Bytes w g p ls.flatten := by
  obtain ⟨_, A, c, rfl, h1, h2, h3⟩ := h
  obtain ⟨g, p, rfl, hb⟩ := h3 hn
  exact ⟨g, p, c, rfl, h1, h2, hb⟩
theorem RdH.lt {w : World} {v : Value} {ls : List H8} (h : RdH w v ls) (hn : 0 < ls.length) : ∀ k, v.ownBlock = some k → k < w.heap.size := by
  obtain ⟨g, p, c, rfl, _, _, hb⟩ := h.at hn
  intro k hk
  simp only [Value.ownBlock, Option.some.injEq] at hk
  subst hk
  exact World.block_lt_of_cell? w ⟨g, p + 0, none⟩ (hb 0 (by rw [flat_length ls h.1]; omega))
theorem Bytes.range {w : World} {g o : Nat} {l : List (BitVec 8)} (h : Bytes w g o l) : w.rangeAt g o (l.map U8) := fun j v hj => by
  obtain ⟨hlt, e⟩ := List.getElem?_eq_some_iff.1 hj
  have hl : j < l.length := by simpa using hlt
  rw [h j hl, ← e]; simp
/-- an element's bytes -/
theorem RdH.elem {w : World} {g p n c : Nat} {ls : List H8} (h : RdH w (.slice (some ⟨g, p, none⟩) n c) ls) (i : Nat) (hi : i < ls.length) : w.rangeAt g (p + i * 32) (ls[i].map U8) := by
  obtain ⟨g', p', c', e, _, _, hb⟩ := h.at (by omega)
  injection e with e1 e2 e3
  injection e1 with e1
  injection e1 with e1 e4
  subst e1 e4
  have := ((hb.drop (32 * i)).take 32)
  rw [flat_get ls i hi h.1, Nat.mul_comm] at this
  exact this.range
/-- a range is read -/
theorem arm_load_mid {P : Program} {ops : Array Oper} {rest : List Oper} {a : Act} {w : World} {Q : Exit → Act → World → Prop} {dst : Option Tmp} {ty type : TypeId} {pos : String} {after : Array Edge} {x : Operand} {g k : Nat} {cs : List Value} {d : TypeDesc}
    (hx : a.eval x = .pointer (some ⟨g, k, none⟩)) (hr : w.rangeAt g k cs) (hu : P.underlying ty = some d) (hd : d.isRow = true) (hi : (P.info? ty).map (·.size) = some cs.length)
    (h : wpList P ops Q rest (a.put dst (.agg cs.toArray)) w) : wpList P ops Q (⟨dst, .load ty x, type, pos, after, none⟩ :: rest) a w := by
  refine wpList_plain rfl fun K hK => ?_
  unfold Oper.wp execOp
  simp only [hx, Instr.loadAt, Instr.sureAddr, Sem.run_bind, Sem.run_pure, Result.andThen_ok, run_loadVar_mid w g k ty cs d hr hu hd hi]
  exact hK _ _ h
theorem szlist {l : List (BitVec 8)} (h : l.length = 32) : (Tryd.prog.info? 27).map (·.size) = some (l.map U8).length := by simp only [List.length_map, h]; kernel_rfl
theorem elem_hashes : Tryd.prog.elem 25 = 27 := by kernel_rfl
theorem size_hash : (Tryd.prog.info? (Tryd.prog.elem 25)).map (·.size) = some 32 := by kernel_rfl
theorem run_cut3 {P : Program} (w : World) (t : TypeId) (size : Nat) (ht : P.underlying t = some (.slice (P.elem t))) (hs : (P.info? (P.elem t)).map (·.size) = some size) (A : Option Addr) (n c i j : Nat) (lo : Option Value)
    (hlo : (lo = none ∧ i = 0) ∨ lo = some (.int .i64 i)) (h1 : i ≤ j) (h2 : j ≤ n) (h3 : n ≤ c) :
    (Instr.sliceAt t (.slice A n c) lo (some (.int .i64 j)) (some (.int .i64 j))).run P w = .ok (.slice (if j = i then A else A.map (·.add (i * size))) (j - i) (j - i)) w := by
  have hsz : (sizeOf (P.elem t)).run P w = .ok size w := by
    cases hq : P.info? (P.elem t) with
    | none => simp [hq] at hs
    | some x => have : x.size = size := by simpa [hq] using hs
                simp [sizeOf, typeInfo, hq, this]
  rw [run_sliceAt_slice w t _ lo _ _ ht]
  rcases hlo with ⟨rfl, rfl⟩ | rfl
  · rw [run_slice_hm w t A n c ht .i64 .i64 j j (by omega) (by omega) (by omega), hsz]
    simp [Result.andThen, sliced]
  · rw [run_slice_lhm w t A n c ht .i64 .i64 .i64 i j j (by omega) (by omega) (by omega) (by omega), hsz]
    simp [Result.andThen, sliced]
/-- a cut of what can be read can be read -/
theorem RdH.cut_any {w : World} {A : Option Addr} {n c : Nat} {ls : List H8} (h : RdH w (.slice A n c) ls) (i j m : Nat) (h1 : i ≤ j) (h2 : j ≤ n) (B : Option Addr) (hm1 : j - i ≤ m) (hm2 : m ≤ maxLen) (hB : i < j → B = A.map (·.add (i * 32))) :
    RdH w (.slice B (j - i) m) ((ls.take j).drop i) := by
  obtain ⟨hl, A', c', e, hc1, hc2, h3⟩ := h
  injection e with e1 e2 e3
  subst e1 e2 e3
  have hlen : ((ls.take j).drop i).length = j - i := by simp; omega
  have hl1 : ∀ x ∈ ls.take j, x.length = 32 := fun x hx => hl x (List.mem_of_mem_take hx)
  refine ⟨fun x hx => hl1 x (List.mem_of_mem_drop hx), B, m, by rw [hlen], by omega, hm2, fun hp => ?_⟩
  obtain ⟨g, p, rfl, hb⟩ := h3 (by omega)
  refine ⟨g, p + 32 * i, ?_, ?_⟩
  · rw [hB (by omega)]; simp [Addr.add_lit, Nat.mul_comm]
  · rw [flat_drop _ i hl1, flat_take _ j hl]
    exact (hb.take _).drop _
theorem sliced_addr {A : Option Addr} {i j c : Nat} (h : i < j) (hc : j ≤ c) : (if c = i then A else A.map (·.add (i * 32))) = A.map (·.add (i * 32)) := by rw [if_neg (by omega)]
/-- the cut l[i:j:j] (i may be left out) -/
theorem RdH.cut3 {w : World} {A : Option Addr} {n c : Nat} {ls : List H8} (h : RdH w (.slice A n c) ls) (i j : Nat) (lo : Option Value) (hlo : (lo = none ∧ i = 0) ∨ lo = some (.int .i64 i)) (h1 : i ≤ j) (h2 : j ≤ n) :
    ∃ B, (∀ W, (Instr.sliceAt 25 (.slice A n c) lo (some (.int .i64 j)) (some (.int .i64 j))).run Tryd.prog W = .ok (.slice B (j - i) (j - i)) W) ∧ RdH w (.slice B (j - i) (j - i)) ((ls.take j).drop i) := by
  obtain ⟨A', c', e, hc1, hc2⟩ := h.isSlice
  injection e with e1 e2 e3
  subst e3
  refine ⟨_, fun W => run_cut3 W 25 32 (by rw [elem_hashes]; exact Tryd.underlying25) size_hash A n c i j lo hlo h1 h2 (by omega), h.cut_any i j _ h1 h2 _ (Nat.le_refl _) (by omega) (fun hij => by rw [if_neg (by omega)])⟩
/-- the cuts l[i:], l[:j], l[i:j] -/
theorem RdH.cut2 {w : World} {A : Option Addr} {n c : Nat} {ls : List H8} (h : RdH w (.slice A n c) ls) (i j : Nat) (lo hi : Option Value) (hlo : (lo = none ∧ i = 0) ∨ lo = some (.int .i64 i)) (hhi : (hi = none ∧ j = n) ∨ hi = some (.int .i64 j)) (h1 : i ≤ j) (h2 : j ≤ n) :
    ∃ B, (∀ W, (Instr.sliceAt 25 (.slice A n c) lo hi none).run Tryd.prog W = .ok (.slice B (j - i) (c - i)) W) ∧ RdH w (.slice B (j - i) (c - i)) ((ls.take j).drop i) := by
  obtain ⟨A', c', e, hc1, hc2⟩ := h.isSlice
  injection e with e1 e2 e3
  subst e3
  refine ⟨_, fun W => run_cut W 25 32 (by rw [elem_hashes]; exact Tryd.underlying25) size_hash A n c i j lo hi hlo hhi h1 h2 (by omega), h.cut_any i j _ h1 h2 _ (by omega) (by omega) (fun hij => by rw [if_neg (by omega)])⟩
/-- an operation that cuts -/
theorem arm_slice {P : Program} {ops : Array Oper} {rest : List Oper} {a : Act} {w : World} {Q : Exit → Act → World → Prop} {dst : Option Tmp} {ty type : TypeId} {pos : String} {after : Array Edge} {x : Operand} {lo hi mx : Option Operand} {v u : Value} {lo' hi' mx' : Option Value}
    (hx : a.eval x = v) (hl : lo.map a.eval = lo') (hh : hi.map a.eval = hi') (hm : mx.map a.eval = mx') (hr : ∀ W, (Instr.sliceAt ty v lo' hi' mx').run P W = .ok u W)
    (h : wpList P ops Q rest (a.put dst u) w) : wpList P ops Q (⟨dst, .slice ty x lo hi mx, type, pos, after, none⟩ :: rest) a w := by
  refine wpList_plain rfl fun K hK => ?_
  subst hl hh hm
  unfold Oper.wp execOp
  simp only [hx, hr, Sem.run_bind, Sem.run_pure, Result.andThen_ok]
  exact hK _ _ h
theorem yields_slice {P : Program} {S : World → Prop} {a : Act} {dst : Option Tmp} {ty type : TypeId} {pos : String} {after : Array Edge} {gd : Option (Nat × Bool)} {x : Operand} {lo hi mx : Option Operand} {v u : Value} {lo' hi' mx' : Option Value}
    (hx : a.eval x = v) (hl : lo.map a.eval = lo') (hh : hi.map a.eval = hi') (hm : mx.map a.eval = mx') (hr : ∀ W, (Instr.sliceAt ty v lo' hi' mx').run P W = .ok u W) :
    ∀ w, S w → (execOp a.eval ⟨dst, .slice ty x lo hi mx, type, pos, after, gd⟩).run P w = .ok (.value u) w := by
  intro w _
  subst hl hh hm
  unfold execOp
  simp only [hx, hr, Sem.run_bind, Sem.run_pure, Result.andThen_ok]
end Go.Proofs.YtdfoffheolbokaaDoor
