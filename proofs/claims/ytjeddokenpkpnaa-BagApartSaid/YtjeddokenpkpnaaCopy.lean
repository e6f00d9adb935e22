/-
  A slice of bytes that can be read, its capacity told (RdB); its cuts; copy of bytes into a row that is known whole.
-/
import Derived.Test.YtjeddokenpkpnaaBytes
import Derived.Laws.CopyOwn
namespace Go.Proofs.Ytjeddokenpkpnaa
open Go Go.RowKit Go.Proofs
/-- a slice of bytes that can be read: its bytes lie there (of an empty one's address nothing is said); the capacity is no less than the length -/
def RdB (w : World) (v : Value) (l : List (BitVec 8)) : Prop := ∃ A c, v = .slice A l.length c ∧ l.length ≤ c ∧ c ≤ maxLen ∧ (0 < l.length → ∃ g p, A = some ⟨g, p, none⟩ ∧ Bytes w g p l)
theorem RdB.mk {w : World} {g p c : Nat} {l : List (BitVec 8)} (h1 : l.length ≤ c) (h2 : c ≤ maxLen) (h : Bytes w g p l) : RdB w (.slice (some ⟨g, p, none⟩) l.length c) l := ⟨_, _, rfl, h1, h2, fun _ => ⟨_, _, rfl, h⟩⟩
theorem RdB.at {w : World} {v : Value} {l : List (BitVec 8)} (h : RdB w v l) (hn : 0 < l.length) : ∃ g p c, v = .slice (some ⟨g, p, none⟩) l.length c ∧ l.length ≤ c ∧ c ≤ maxLen ∧ Bytes w g p l := by
  obtain ⟨A, c, rfl, h1, h2, h3⟩ := h
  obtain ⟨g, p, rfl, hb⟩ := h3 hn
  exact ⟨g, p, c, rfl, h1, h2, hb⟩
theorem RdB.isSlice {w : World} {v : Value} {l : List (BitVec 8)} (h : RdB w v l) : ∃ a c, v = .slice a l.length c ∧ l.length ≤ c ∧ c ≤ maxLen := by
  obtain ⟨A, c, rfl, h1, h2, _⟩ := h
  exact ⟨_, _, rfl, h1, h2⟩
theorem RdB.upd' {w w' : World} {v : Value} {l : List (BitVec 8)} {S : List Nat} (h : RdB w v l) (u : Upd S w w') (hn : 0 < l.length → ∀ k, v.ownBlock = some k → k ∉ S) : RdB w' v l := by
  obtain ⟨A, c, rfl, h1, h2, h3⟩ := h
  refine ⟨A, c, rfl, h1, h2, fun hp => ?_⟩
  obtain ⟨g, p, rfl, hb⟩ := h3 hp
  exact ⟨g, p, rfl, hb.upd u (hn hp g rfl)⟩
theorem RdB.upd {w w' : World} {v : Value} {l : List (BitVec 8)} {S : List Nat} (h : RdB w v l) (u : Upd S w w') (hn : ∀ k, v.ownBlock = some k → k ∉ S) : RdB w' v l := h.upd' u fun _ => hn
theorem RdB.upd0 {w w' : World} {v : Value} {l : List (BitVec 8)} (h : RdB w v l) (u : Upd [] w w') : RdB w' v l := h.upd u (by simp)
theorem RdB.drew {w : World} {v : Value} {l : List (BitVec 8)} (h : RdB w v l) (n : Nat) : RdB (w.drewN n) v l := h
theorem RdB.alloc {w : World} {v : Value} {l : List (BitVec 8)} (h : RdB w v l) (o : Obj) : RdB (w.alloc o) v l := h.upd0 ((Upd.refl _ w).alloc o)
theorem RdB.nil (w : World) : RdB w (.slice none 0 0) [] := ⟨none, 0, rfl, Nat.le_refl _, by simp [maxLen], fun h => by simp at h⟩
theorem RdB.read {w : World} {v : Value} {l : List (BitVec 8)} (h : RdB w v l) : ReadB w v l ∨ l = [] := by
  rcases Nat.eq_zero_or_pos l.length with h0 | h0
  · exact .inr (List.eq_nil_of_length_eq_zero h0)
  · obtain ⟨g, p, c, e, _, _, hb⟩ := h.at h0
    exact .inl (.inr ⟨g, p, c, e, hb⟩)
theorem RdB.readPos {w : World} {v : Value} {l : List (BitVec 8)} (h : RdB w v l) (h0 : 0 < l.length) : ReadB w v l := by
  obtain ⟨g, p, c, e, _, _, hb⟩ := h.at h0
  exact .inr ⟨g, p, c, e, hb⟩
theorem RdB.lt {w : World} {v : Value} {l : List (BitVec 8)} (h : RdB w v l) (hn : 0 < l.length) : ∀ k, v.ownBlock = some k → k < w.heap.size := by
  obtain ⟨g, p, c, rfl, _, _, hb⟩ := h.at hn
  intro k hk
  have := World.block_lt_of_cell? w _ (hb 0 hn)
  simp [Value.ownBlock] at hk this
  omega
theorem OwnB.rd {w : World} {B : Nat} {v : Value} {l : List (BitVec 8)} (h : OwnB w B v l) : RdB w v l := by
  rcases Nat.eq_zero_or_pos l.length with h0 | h0
  · obtain ⟨a, c, e⟩ := h.isSlice
    subst e
    rcases h.2 with ⟨h1, h2⟩ | ⟨g, cap, cur, h1, _, h3⟩
    · injection h1 with e1 e2 e3
      subst e1 e3
      exact ⟨none, 0, rfl, by omega, by simp [maxLen], fun h => by omega⟩
    · injection h1 with h1 _ h4
      subst h1
      subst h4
      exact ⟨_, c, rfl, h3.2.1, h3.2.2.1, fun h => by omega⟩
  · obtain ⟨g, cap, rfl, _, _, h1, h2⟩ := h.at h0
    exact .mk h1 h2 h.bytes
/-- the cut 's[n:]' -/
theorem RdB.cut {w : World} {g o c : Nat} {l : List (BitVec 8)} (n : Nat) (hb : Bytes w g o l) (h1 : l.length ≤ c) (h2 : c ≤ maxLen) (hn : n ≤ l.length) (A : Option Addr) (m k : Nat)
    (hA : n < l.length → A = some ⟨g, o + n, none⟩) (hm : m = l.length - n) (hk : k = c - n) : RdB w (.slice A m k) (l.drop n) := by
  subst hm hk
  exact ⟨A, c - n, by rw [List.length_drop], by simp; omega, by omega, fun h => ⟨g, o + n, hA (by simp at h; omega), hb.drop n⟩⟩
theorem run_append_nil' {P : Program} (w : World) (base : Nat) (t ty e : TypeId) (i : TypeInfo) (size : Nat) (ht : P.underlying t = some (.slice e)) (hi : P.info? e = some i)
    (v : Value) (n : Nat) (xs : List Value) (hown : w.ownsRow base e size v n xs) (c : Nat) : (Builtin.append_ #[t, t] ty #[v, .slice none 0 c]).run P w = .ok v w := by
  rcases hown.2 with ⟨rfl, rfl⟩ | ⟨g, cap, cur, rfl, _, _, hnc, _⟩
  · simp [Builtin.append_, run_underlying ht, sizeOf, typeInfo, hi, Builtin.lenOf, Builtin.firstCells]
  · simp [Builtin.append_, run_underlying ht, sizeOf, typeInfo, hi, Builtin.lenOf, Builtin.firstCells, hnc, storeCells]
theorem GrewB.refl (w : World) (v : Value) (l : List (BitVec 8)) : GrewB w w v v l l := ⟨fun _ _ _ h1 h2 => ⟨h1, h2⟩, fun _ h => .inl h⟩
/-- append of bytes that can be read, nil let in -/
theorem append_rd {w : World} {ops : Array Oper} {rest : List Oper} {o : Oper} {a : Act} {Q : Exit → Act → World → Prop} (hgd : o.guard = none) (s x : Operand)
    (ho : o.op = .call { callee := .builtin .append, args := #[s, x], argTypes := #[27, 27] }) (B : Nat) (v : Value) (l : List (BitVec 8)) (hs : a.eval s = v) (hown : OwnB w B v l)
    (u : Value) (news : List (BitVec 8)) (hx : a.eval x = u) (hnews : RdB w u news) (hlen : l.length + news.length ≤ 140737488355328) (hB : B ≤ w.heap.size)
    (h : ∀ v' w', OwnB w' B v' (l ++ news) → OwnB w' B v l → Upd v.ownBlock.toList w w' → GrewB w w' v v' l (l ++ news) → wpList Try.prog ops Q rest (a.put o.dst v') w') :
    wpList Try.prog ops Q (o :: rest) a w := by
  obtain ⟨A, c, rfl, h1, h2, h3⟩ := hnews
  rcases Nat.eq_zero_or_pos news.length with h0 | h0
  · obtain rfl : news = [] := List.eq_nil_of_length_eq_zero h0
    obtain ⟨i, hi, hz, hsz, hby⟩ := info_byte
    cases A with
    | none =>
      refine wpList_plain hgd fun K hK => ?_
      have hrun := run_append_nil' (P := Try.prog) w B 27 o.type 5 i 1 Try.underlying27 hi v l.length (l.map U8) hown c
      unfold Oper.wp
      simp [execOp, ho, resolve, invoke, builtin, hs, hx, hrun, Result.andThen]
      refine hK _ _ (h v w ?_ hown (Upd.refl _ w) ?_)
      · rw [List.append_nil]; exact hown
      · rw [List.append_nil]; exact GrewB.refl w v l
    | some ad =>
      refine wpList_append_keep hgd s x 27 ho B 5 i _ 1 1 Try.underlying27 hi hz hsz hby rfl (by omega) v l.length (l.map U8) hs hown ad 0 c [] hx rfl (fun j u hj => by simp at hj) (fun u hu => by cases hu) (by simp only [maxLen]; omega) (by omega) hB ?_
      intro v' w' h2 h3 h4 h5
      have k1 : OwnB w' B v' (l ++ []) := by
        unfold OwnB
        rw [List.length_append, List.map_append]
        exact h2
      refine h v' w' k1 h3 (upd_grown h4) ⟨fun C a la ha hal => ?_, fun g hg => ?_⟩
      · have := own_alias (news := []) ha hal h3 (upd_grown h4) h5
        unfold AlB
        rw [List.length_append, List.map_append]
        exact this
      · rcases h5.block with e | e
        · exact .inl (by rw [← e]; exact hg)
        · rw [e] at hg; injection hg with hg; exact .inr (by omega)
  · obtain ⟨g, p, rfl, hb⟩ := h3 h0
    exact append_bytes hgd s x ho B v l hs hown g p news.length c news hx rfl hb hlen hB h
/-- append of one byte that was just built, its block's number told -/
theorem append_byte_at {w : World} {ops : Array Oper} {rest : List Oper} {o : Oper} {a : Act} {Q : Exit → Act → World → Prop} (hgd : o.guard = none) (s x : Operand)
    (ho : o.op = .call { callee := .builtin .append, args := #[s, x], argTypes := #[27, 27] }) (B : Nat) (v : Value) (l : List (BitVec 8)) (hs : a.eval s = v) (w0 : World) (y : BitVec 8) (z : Nat) (hz : z = w0.heap.size)
    (hw : w = w0.alloc (.cells #[U8 y] 5)) (hown : OwnB w0 B v l) (hx : a.eval x = .slice (some ⟨z, 0, none⟩) 1 1) (hlen : l.length ≤ 140737488355327) (hB : B ≤ w0.heap.size)
    (h : ∀ v' w', OwnB w' B v' (l ++ [y]) → OwnB w' B v l → Upd v.ownBlock.toList w0 w' → GrewB w0 w' v v' l (l ++ [y]) → wpList Try.prog ops Q rest (a.put o.dst v') w') :
    wpList Try.prog ops Q (o :: rest) a w := by
  subst hz
  exact append_byte hgd s x ho B v l hs w0 y hw hown hx hlen hB h
/-- copy of bytes into a row that is known whole -/
theorem copy_bytes {w : World} {ops : Array Oper} {rest : List Oper} {o : Oper} {a : Act} {Q : Exit → Act → World → Prop} (hgd : o.guard = none) (d s : Operand)
    (ho : o.op = .call { callee := .builtin .copy, args := #[d, s], argTypes := #[27, 27] }) (g off dLen dCap : Nat) (hd : a.eval d = .slice (some ⟨g, off, none⟩) dLen dCap)
    (v : Value) (l : List (BitVec 8)) (hs : a.eval s = v) (hv : RdB w v l) (cur : List Value) (t : TypeId) (hg : w.heap[g]? = some (.cells cur.toArray t (0, 0))) (n : Nat) (hn : n = min l.length dLen) (hfit : off + dLen ≤ cur.length)
    (h : ∀ w', Hid (w'.heap[g]? = some (.cells (splice cur off ((l.take n).map U8)).toArray t (0, 0))) → Upd [g] w w' → wpList Try.prog ops Q rest (a.put o.dst (.int .i64 (n : Int))) w') : wpList Try.prog ops Q (o :: rest) a w := by
  obtain ⟨i, hi, hz, hsz, hby⟩ := info_byte
  have hsz' : (Try.prog.info? 5).map (·.size) = some 1 := by rw [hi]; simp [hsz]
  obtain ⟨A, c, rfl, hc1, hc2⟩ := hv.isSlice
  have hl : ((l.take n).map U8).length = n := by simp; omega
  rcases Nat.eq_zero_or_pos n with h0 | h0
  · subst h0
    refine wpList_copy_nothing hgd d s _ _ ho 5 Try.underlying27 hsz' _ _ _ _ _ _ hd hs hn.symm ?_
    exact h w (show _ = _ by simpa [splice] using hg) (Upd.refl _ w)
  · obtain ⟨g', p', c', e, h1, h2, hb⟩ := hv.at (by omega)
    injection e with e1 _ e3
    subst e1
    subst e3
    refine wpList_copy_own hgd d s _ _ ho 5 Try.underlying27 hsz' g off dLen dCap ⟨g', p', none⟩ l.length c hd hs cur.toArray t hg ((l.take n).map U8) (by rw [hl]; exact hn) ?_ (by rw [hl]; simp; omega) (fun v hv => by obtain ⟨y, _, rfl⟩ := List.mem_map.1 hv; rfl) ?_
    · intro j u hj
      rw [List.getElem?_map] at hj
      cases hq : (l.take n)[j]? with
      | none => rw [hq] at hj; cases hj
      | some y =>
        rw [hq] at hj
        obtain ⟨hlt, rfl⟩ := List.getElem?_eq_some_iff.1 hq
        simp at hj
        subst hj
        rw [Addr.add_lit]
        have := hb j (by simp at hlt; omega)
        exact this
    · rw [hl]
      refine h _ (show _ = _ from ?_) ((Upd.refl _ w).setRow _ _ (by simp))
      rw [splice, hl]
      exact setRow_heap w g _ _ t (0, 0) hg
/-- the same as one step of a region that draws its order -/
theorem step_copy_bytes {w : World} {ops : Array Oper} {o : Oper} {a : Act} {K : Act → World → Prop} {Q : Exit → Act → World → Prop} {E : Prop} (hgd : o.guard = none) (d s : Operand)
    (ho : o.op = .call { callee := .builtin .copy, args := #[d, s], argTypes := #[27, 27] }) (g off dLen dCap : Nat) (hd : a.eval d = .slice (some ⟨g, off, none⟩) dLen dCap)
    (v : Value) (l : List (BitVec 8)) (hs : a.eval s = v) (hv : RdB w v l) (cur : List Value) (t : TypeId) (hg : w.heap[g]? = some (.cells cur.toArray t (0, 0))) (n : Nat) (hn : n = min l.length dLen) (hfit : off + dLen ≤ cur.length)
    (h : ∀ w', Hid (w'.heap[g]? = some (.cells (splice cur off ((l.take n).map U8)).toArray t (0, 0))) → Upd [g] w w' → K (a.put o.dst (.int .i64 (n : Int))) w') :
    if Region.wanted o (yielded ops a.tmps) = true then Oper.wp Try.prog o a w K Q else E := by
  have hw : Region.wanted o (yielded ops a.tmps) = true := by simp [Region.wanted, hgd]
  rw [if_pos hw]
  obtain ⟨i, hi, hz, hsz, hby⟩ := info_byte
  have hsz' : (Try.prog.info? 5).map (·.size) = some 1 := by rw [hi]; simp [hsz]
  obtain ⟨A, c, rfl, hc1, hc2⟩ := hv.isSlice
  have hl : ((l.take n).map U8).length = n := by simp; omega
  rcases Nat.eq_zero_or_pos n with h0 | h0
  · subst h0
    have hrun := run_copy_none (P := Try.prog) w 27 27 o.type 5 (some ⟨g, off, none⟩) A dLen dCap l.length c Try.underlying27 hsz' hn.symm
    unfold Oper.wp
    simp [execOp, ho, resolve, invoke, builtin, hd, hs, hrun, Result.andThen]
    exact h w (show _ = _ by simpa [splice] using hg) (Upd.refl _ w)
  · obtain ⟨g', p', c', e, h1, h2, hb⟩ := hv.at (by omega)
    injection e with e1 _ e3
    subst e1
    subst e3
    have hsrc : ∀ j u, ((l.take n).map U8)[j]? = some u → w.cell? ((⟨g', p', none⟩ : Addr).add j) = some u := by
      intro j u hj
      rw [List.getElem?_map] at hj
      cases hq : (l.take n)[j]? with
      | none => rw [hq] at hj; cases hj
      | some y =>
        rw [hq] at hj
        obtain ⟨hlt, rfl⟩ := List.getElem?_eq_some_iff.1 hq
        simp at hj
        subst hj
        rw [Addr.add_lit]
        have := hb j (by simp at hlt; omega)
        exact this
    have hrun := run_copy_row (P := Try.prog) w 27 27 o.type 5 g off dLen dCap ⟨g', p', none⟩ l.length c cur.toArray t ((l.take n).map U8) Try.underlying27 hsz' hg (by rw [hl]; exact hn) hsrc (by rw [hl]; simp; omega) (fun v hv => by obtain ⟨y, _, rfl⟩ := List.mem_map.1 hv; rfl)
    unfold Oper.wp
    simp only [execOp, ho, resolve, invoke, builtin, List.map_toArray, List.map_cons, List.map_nil, hd, hs, hrun, Result.andThen, Sem.run_bind, Sem.run_pure]
    rw [hl]
    refine h _ (show _ = _ from ?_) ((Upd.refl _ w).setRow _ _ (by simp))
    rw [splice, hl, ← List.append_assoc]
    exact setRow_heap w g _ _ t (0, 0) hg
end Go.Proofs.Ytjeddokenpkpnaa
