/-
  Rows of bytes of the call's own: append and make, spelt for bytes.
-/
import Derived.Test.YtjeddokenpkpnaaOwn
import Derived.Test.YtjeddokenpkpnaaProg
namespace Go.Proofs.Ytjeddokenpkpnaa
open Go Go.RowKit Go.Proofs
def OwnB (w : World) (B : Nat) (v : Value) (l : List (BitVec 8)) : Prop := w.ownsRow B 5 1 v l.length (l.map U8)
theorem OwnB.upd {w w' : World} {B : Nat} {v : Value} {l : List (BitVec 8)} {S : List Nat} (h : OwnB w B v l) (u : Upd S w w') (hn : ∀ k, v.ownBlock = some k → k ∉ S) : OwnB w' B v l := own_upd h u hn
theorem OwnB.upd0 {w w' : World} {B : Nat} {v : Value} {l : List (BitVec 8)} (h : OwnB w B v l) (u : Upd [] w w') : OwnB w' B v l := own_upd h u (by simp)
theorem OwnB.drew {w : World} {B : Nat} {v : Value} {l : List (BitVec 8)} (h : OwnB w B v l) (n : Nat) : OwnB (w.drewN n) B v l := h
theorem OwnB.alloc {w : World} {B : Nat} {v : Value} {l : List (BitVec 8)} (h : OwnB w B v l) (o : Obj) : OwnB (w.alloc o) B v l := own_alloc h o
theorem OwnB.lt {w : World} {B : Nat} {v : Value} {l : List (BitVec 8)} (h : OwnB w B v l) : ∀ k, v.ownBlock = some k → B ≤ k ∧ k < w.heap.size := own_block h
theorem OwnB.mono {w : World} {B C : Nat} {v : Value} {l : List (BitVec 8)} (h : OwnB w B v l) (hC : ∀ k, v.ownBlock = some k → C ≤ k) : OwnB w C v l := own_mono h hC
theorem OwnB.nil (w : World) (B : Nat) : OwnB w B (.slice none 0 0) [] := World.ownsRow_nil w B _ 1
theorem OwnB.isSlice {w : World} {B : Nat} {v : Value} {l : List (BitVec 8)} (h : OwnB w B v l) : ∃ a cap, v = .slice a l.length cap := by
  rcases h.2 with ⟨rfl, h0⟩ | ⟨g, cap, cur, r⟩
  · exact ⟨none, 0, by rw [h0]⟩
  · exact ⟨_, _, r.1⟩
/-- where a row that is not empty lies, with its bytes -/
theorem OwnB.at {w : World} {B : Nat} {v : Value} {l : List (BitVec 8)} (h : OwnB w B v l) (hn : 0 < l.length) :
    ∃ g cap, v = .slice (some ⟨g, 0, none⟩) l.length cap ∧ B ≤ g ∧ g < w.heap.size ∧ l.length ≤ cap ∧ cap ≤ maxLen := by
  obtain ⟨g, cap, cur, r⟩ := own_at h hn
  exact ⟨g, cap, r.1, r.2.1, lt_of_heap r.2.2.1, r.2.2.2.1, r.2.2.2.2.1⟩
theorem OwnB.bytes {w : World} {B g cap n : Nat} {l : List (BitVec 8)} (h : OwnB w B (.slice (some ⟨g, 0, none⟩) n cap) l) : Bytes w g 0 l := fun i hi => by
  obtain ⟨a, c, e⟩ := h.isSlice
  injection e with e1 e2 e3
  subst e2
  rw [Nat.zero_add, own_cell h i hi]; simp [hi]
theorem OwnB.cell {w : World} {B g cap n : Nat} {l : List (BitVec 8)} (h : OwnB w B (.slice (some ⟨g, 0, none⟩) n cap) l) (k : Nat) (hk : k < l.length) : w.cell? ⟨g, k, none⟩ = some (U8 l[k]) := by
  have := h.bytes k hk
  rwa [Nat.zero_add] at this
theorem OwnB.len {w : World} {B n cap : Nat} {a : Option Addr} {l : List (BitVec 8)} (h : OwnB w B (.slice a n cap) l) : n = l.length := by
  obtain ⟨a, c, e⟩ := h.isSlice
  injection e
theorem OwnB.set {w : World} {B g cap n : Nat} {l : List (BitVec 8)} (h : OwnB w B (.slice (some ⟨g, 0, none⟩) n cap) l) (k : Nat) (hk : k < l.length) (u : BitVec 8) :
    OwnB (w.setCell ⟨g, k, none⟩ (U8 u)) B (.slice (some ⟨g, 0, none⟩) n cap) (l.set k u) := by
  have hn := h.len
  subst hn
  have := own_set h k hk (U8 u)
  unfold OwnB
  rw [List.length_set, List.map_set]
  exact this
theorem OwnB.frozen {w : World} {B g cap n : Nat} {l : List (BitVec 8)} (h : OwnB w B (.slice (some ⟨g, 0, none⟩) n cap) l) (k : Nat) (hk : k < l.length) : w.frozen? ⟨g, k, none⟩ = false := by
  have hn := h.len
  subst hn
  exact own_frozen h k hk
/-- a slice of bytes that can be read: nil, or its bytes lie there -/
def ReadB (w : World) (v : Value) (l : List (BitVec 8)) : Prop := (v = .slice none 0 0 ∧ l = []) ∨ ∃ g p c, v = .slice (some ⟨g, p, none⟩) l.length c ∧ Bytes w g p l
theorem OwnB.read {w : World} {B : Nat} {v : Value} {l : List (BitVec 8)} (h : OwnB w B v l) : ReadB w v l := by
  obtain ⟨a, c, e⟩ := h.isSlice
  subst e
  rcases h.2 with ⟨h1, h2⟩ | ⟨g, cap, cur, h1, _⟩
  · exact .inl ⟨h1, List.eq_nil_of_length_eq_zero h2⟩
  · injection h1 with h1
    subst h1
    exact .inr ⟨g, 0, c, rfl, h.bytes⟩
theorem ReadB.upd {w w' : World} {v : Value} {l : List (BitVec 8)} {S : List Nat} (h : ReadB w v l) (u : Upd S w w') (hn : ∀ k, v.ownBlock = some k → k ∉ S) : ReadB w' v l := by
  rcases h with h | ⟨g, p, c, rfl, hb⟩
  · exact .inl h
  · exact .inr ⟨g, p, c, rfl, hb.upd u (hn g rfl)⟩
theorem ReadB.upd0 {w w' : World} {v : Value} {l : List (BitVec 8)} (h : ReadB w v l) (u : Upd [] w w') : ReadB w' v l := h.upd u (by simp)
theorem ReadB.at {w : World} {v : Value} {l : List (BitVec 8)} (h : ReadB w v l) (hn : 0 < l.length) : ∃ g p c, v = .slice (some ⟨g, p, none⟩) l.length c ∧ Bytes w g p l := by
  rcases h with ⟨_, rfl⟩ | h
  · simp at hn
  · exact h
theorem ReadB.isSlice {w : World} {v : Value} {l : List (BitVec 8)} (h : ReadB w v l) : ∃ a c, v = .slice a l.length c := by
  rcases h with ⟨rfl, rfl⟩ | ⟨g, p, c, rfl, _⟩
  · exact ⟨_, _, rfl⟩
  · exact ⟨_, _, rfl⟩
/-- a slice's length -/
def slen : Value → Nat
  | .slice _ n _ => n
  | _ => 0
theorem info_byte : ∃ i, Try.prog.info? 5 = some i ∧ i.zero = some (.int .u8 0) ∧ i.size = 1 ∧ i.bytes = 1 := by
  have h : (Try.prog.info? 5).map (fun i => (i.zero, i.size, i.bytes)) = some (some (.int .u8 0), 1, 1) := by kernel_rfl
  cases hq : Try.prog.info? 5 with
  | none => rw [hq] at h; cases h
  | some i =>
    rw [hq] at h
    simp at h
    exact ⟨i, rfl, h⟩
/-- a row's beginning that may share its block with a row that grows -/
def AlB (a : Value) (la : List (BitVec 8)) (v : Value) (l : List (BitVec 8)) : Prop := Al a la.length (la.map U8) v l.length (l.map U8)
theorem AlB.refl {w : World} {B : Nat} {v : Value} {l : List (BitVec 8)} (h : OwnB w B v l) : AlB v l v l := Al.refl h
theorem AlB.apart {a v : Value} {la l : List (BitVec 8)} (h : ∀ g, a.ownBlock = some g → v.ownBlock ≠ some g) : AlB a la v l := Al.apart h
/-- a step of append: what shares the block stands; where the new row lies -/
structure GrewB (w w' : World) (v v' : Value) (l l' : List (BitVec 8)) : Prop where
  alias : ∀ C a la, OwnB w C a la → AlB a la v l → OwnB w' C a la ∧ AlB a la v' l'
  block : ∀ g, v'.ownBlock = some g → v.ownBlock = some g ∨ w.heap.size ≤ g
/-- append of bytes that lie somewhere else, or that were just built -/
theorem append_bytes {w : World} {ops : Array Oper} {rest : List Oper} {o : Oper} {a : Act} {Q : Exit → Act → World → Prop} (hgd : o.guard = none) (s x : Operand)
    (ho : o.op = .call { callee := .builtin .append, args := #[s, x], argTypes := #[27, 27] }) (B : Nat) (v : Value) (l : List (BitVec 8)) (hs : a.eval s = v) (hown : OwnB w B v l)
    (g p m c : Nat) (news : List (BitVec 8)) (hx : a.eval x = .slice (some ⟨g, p, none⟩) m c) (hl : news.length = m) (hnews : Bytes w g p news) (hlen : l.length + m ≤ 140737488355328) (hB : B ≤ w.heap.size)
    (h : ∀ v' w', OwnB w' B v' (l ++ news) → OwnB w' B v l → Upd v.ownBlock.toList w w' → GrewB w w' v v' l (l ++ news) → wpList Try.prog ops Q rest (a.put o.dst v') w') :
    wpList Try.prog ops Q (o :: rest) a w := by
  obtain ⟨i, hi, hz, hsz, hby⟩ := info_byte
  subst hl
  refine wpList_append_keep hgd s x 27 ho B 5 i _ 1 1 Try.underlying27 hi hz hsz hby rfl (by omega) v l.length (l.map U8) hs hown ⟨g, p, none⟩ news.length c (news.map U8) hx (by simp) ?_ ?_ (by simp only [maxLen]; omega) (by omega) hB ?_
  · intro j u hj
    rw [List.getElem?_map] at hj
    cases hq : news[j]? with
    | none => rw [hq] at hj; cases hj
    | some y =>
      rw [hq] at hj
      obtain ⟨hlt, rfl⟩ := List.getElem?_eq_some_iff.1 hq
      simp at hj
      subst hj
      rw [Addr.add_lit]
      exact hnews j hlt
  · intro u hu
    obtain ⟨y, _, rfl⟩ := List.mem_map.1 hu
    rfl
  · intro v' w' h2 h3 h4 h5
    have k1 : OwnB w' B v' (l ++ news) := by
      unfold OwnB
      rw [List.length_append, List.map_append]
      exact h2
    refine h v' w' k1 h3 (upd_grown h4) ⟨fun C a la ha hal => ?_, fun g hg => ?_⟩
    · have := own_alias (news := news.map U8) ha hal h3 (upd_grown h4) h5
      unfold AlB
      rw [List.length_append, List.map_append]
      exact this
    · rcases h5.block with e | e
      · exact .inl (by rw [← e]; exact hg)
      · rw [e] at hg; injection hg with hg; exact .inr (by omega)
/-- append of one byte that was just built -/
theorem append_byte {w : World} {ops : Array Oper} {rest : List Oper} {o : Oper} {a : Act} {Q : Exit → Act → World → Prop} (hgd : o.guard = none) (s x : Operand)
    (ho : o.op = .call { callee := .builtin .append, args := #[s, x], argTypes := #[27, 27] }) (B : Nat) (v : Value) (l : List (BitVec 8)) (hs : a.eval s = v) (w0 : World) (y : BitVec 8)
    (hw : w = w0.alloc (.cells #[U8 y] 5)) (hown : OwnB w0 B v l) (hx : a.eval x = .slice (some ⟨w0.heap.size, 0, none⟩) 1 1) (hlen : l.length ≤ 140737488355327) (hB : B ≤ w0.heap.size)
    (h : ∀ v' w', OwnB w' B v' (l ++ [y]) → OwnB w' B v l → Upd v.ownBlock.toList w0 w' → GrewB w0 w' v v' l (l ++ [y]) → wpList Try.prog ops Q rest (a.put o.dst v') w') :
    wpList Try.prog ops Q (o :: rest) a w := by
  subst hw
  refine append_bytes hgd s x ho B v l hs (hown.alloc _) w0.heap.size 0 1 1 [y] hx rfl ?_ (by omega) (by simp; omega) ?_
  · intro i hi
    rw [cell_of_row _ _ _ _ _ _ (hget_new (w := w0) rfl)]
    match i, hi with
    | 0, _ => rfl
  · intro v' w' h1 h2 h3 h4
    exact h v' w' h1 h2 (((Upd.refl _ w0).alloc _).trans h3) ⟨fun C a la ha hal => h4.alias C a la (ha.alloc _) hal, fun g hg => (h4.block g hg).imp id (fun h => by simp at h; omega)⟩
/-- append where there is room -/
theorem append_byte_room {w : World} {ops : Array Oper} {rest : List Oper} {o : Oper} {a : Act} {Q : Exit → Act → World → Prop} (hgd : o.guard = none) (s x : Operand)
    (ho : o.op = .call { callee := .builtin .append, args := #[s, x], argTypes := #[27, 27] }) (B g n cap : Nat) (l : List (BitVec 8)) (hs : a.eval s = .slice (some ⟨g, 0, none⟩) n cap) (w0 : World) (y : BitVec 8)
    (hw : w = w0.alloc (.cells #[U8 y] 5)) (hown : OwnB w0 B (.slice (some ⟨g, 0, none⟩) n cap) l) (hx : a.eval x = .slice (some ⟨w0.heap.size, 0, none⟩) 1 1) (hroom : n + 1 ≤ cap)
    (h : ∀ w', OwnB w' B (.slice (some ⟨g, 0, none⟩) (n + 1) cap) (l ++ [y]) → Upd [g] w0 w' → wpList Try.prog ops Q rest (a.put o.dst (.slice (some ⟨g, 0, none⟩) (n + 1) cap)) w') :
    wpList Try.prog ops Q (o :: rest) a w := by
  subst hw
  obtain ⟨i, hi, hz, hsz, hby⟩ := info_byte
  have hn := hown.len
  subst hn
  refine wpList_append_own_spare _ hgd s x 27 ho B 5 i 1 Try.underlying27 hi hsz g l.length cap (l.map U8) hs (hown.alloc _) ⟨w0.heap.size, 0, none⟩ 1 1 [U8 y] hx rfl (cell_one_new _ _ _) (by simp) hroom ?_
  intro w' h1 h2
  refine h w' ?_ (((Upd.refl _ w0).alloc _).trans (upd_grown (v := .slice (some ⟨g, 0, none⟩) l.length cap) h2))
  unfold OwnB
  rw [List.length_append, List.map_append]
  exact h1
/-- make: a row of zeros -/
theorem make_bytes {w : World} {ops : Array Oper} {rest : List Oper} {o : Oper} {a : Act} {Q : Exit → Act → World → Prop} (hgd : o.guard = none) (x y : Operand) (ho : o.op = .makeSlice 27 x y)
    (B n c : Nat) (n' c' : Int) (hx : a.eval x = .int .i64 n') (hy : a.eval y = .int .i64 c') (hn : n' = n) (hc : c' = c) (hnc : n ≤ c) (hlen : c ≤ 140737488355328) (hB : B ≤ w.heap.size)
    (h : ∀ w', OwnB w' B (.slice (some ⟨w.heap.size, 0, none⟩) n c) (List.replicate n 0) → Upd [] w w' → wpList Try.prog ops Q rest (a.put o.dst (.slice (some ⟨w.heap.size, 0, none⟩) n c)) w') :
    wpList Try.prog ops Q (o :: rest) a w := by
  obtain ⟨i, hi, hz, hsz, hby⟩ := info_byte
  refine wpList_make_own hgd 27 x y ho B 5 i _ 1 1 Try.underlying27 hi hz hsz hby rfl n c n' c' hx hy hn hc hnc (by omega) (by simp only [maxLen]; omega) hB ?_
  intro w' h1 h2
  refine h w' ?_ ⟨h2.os, h2.tape, h2.output, h2.size, fun k hk _ => h2.block k hk (by simp)⟩
  have e : (madeCells (Value.int IntKind.u8 0).cells (c * 1)).toList.take (n * 1) = (List.replicate n (0 : BitVec 8)).map U8 := by
    simp only [madeCells, Nat.mul_one]
    apply List.ext_getElem
    · simp [Nat.min_eq_left hnc, Value.cells]
    · intro k h1 h2
      simp [Value.cells, Nat.mod_one, U8]
  rw [e] at h1
  unfold OwnB
  rw [List.length_replicate]
  exact h1
/-- append of so many zeros, where there is room -/
theorem append_zeros {w : World} {ops : Array Oper} {rest : List Oper} {o : Oper} {a : Act} {Q : Exit → Act → World → Prop} (hgd : o.guard = none) (s x : Operand)
    (ho : o.op = .call { callee := .builtin .append, args := #[s, x], argTypes := #[27, 3] }) (B g n cap m : Nat) (m' : Int) (hm' : m' = m) (l : List (BitVec 8)) (hs : a.eval s = .slice (some ⟨g, 0, none⟩) n cap) (hx : a.eval x = .int .i64 m')
    (hown : OwnB w B (.slice (some ⟨g, 0, none⟩) n cap) l) (hroom : n + m ≤ cap) (hm : m ≤ 17592186044416)
    (h : ∀ w', OwnB w' B (.slice (some ⟨g, 0, none⟩) (n + m) cap) (l ++ List.replicate m 0) → Upd [g] w w' → wpList Try.prog ops Q rest (a.put o.dst (.slice (some ⟨g, 0, none⟩) (n + m) cap)) w') : wpList Try.prog ops Q (o :: rest) a w := by
  obtain ⟨i, hi, hz, hsz, hby⟩ := info_byte
  have hn := hown.len
  subst hn
  refine wpList_append_zeros hgd s x 27 3 ho B 5 i _ .i64 Try.underlying27 Try.underlying3 hi hz hsz (by omega) rfl rfl g l.length cap m m' hm' (l.map U8) hs hx hown hroom hm ?_
  intro w' h1 h2
  refine h w' ?_ (upd_grown (v := .slice (some ⟨g, 0, none⟩) l.length cap) h2)
  unfold OwnB
  rw [List.length_append, List.map_append, List.length_replicate, List.map_replicate]
  exact h1
/-- rows that stand aside -/
def Keep (w : World) (B : Nat) (R : List (Value × List (BitVec 8))) : Prop := ∀ r ∈ R, OwnB w B r.1 r.2
/-- a row that lies apart from all of them -/
def Apart (v : Value) (R : List (Value × List (BitVec 8))) : Prop := ∀ r ∈ R, ∀ k, r.1.ownBlock = some k → v.ownBlock ≠ some k
theorem Keep.upd0 {w w' : World} {B : Nat} {R : List (Value × List (BitVec 8))} (h : Keep w B R) (u : Upd [] w w') : Keep w' B R := fun r hr => (h r hr).upd0 u
theorem Keep.row {w w' : World} {B : Nat} {R : List (Value × List (BitVec 8))} {v : Value} (h : Keep w B R) (u : Upd v.ownBlock.toList w w') (ha : Apart v R) : Keep w' B R :=
  fun r hr => (h r hr).upd u (fun k hk hm => ha r hr k hk (by simpa using hm))
theorem Keep.nil (w : World) (B : Nat) : Keep w B [] := fun r hr => by cases hr
theorem Apart.none {v : Value} {R : List (Value × List (BitVec 8))} (h : v.ownBlock = none) : Apart v R := fun r _ k _ e => by rw [h] at e; cases e
theorem Keep.cons {w : World} {B : Nat} {R : List (Value × List (BitVec 8))} {v : Value} {l : List (BitVec 8)} (h : Keep w B R) (hv : OwnB w B v l) : Keep w B ((v, l) :: R) := fun r hr => by
  rcases List.mem_cons.1 hr with rfl | hr
  · exact hv
  · exact h r hr
theorem Apart.grew {w w' : World} {B : Nat} {R : List (Value × List (BitVec 8))} {v v' : Value} {l l' : List (BitVec 8)} (h : Apart v R) (hk : Keep w B R) (hg : GrewB w w' v v' l l') : Apart v' R := fun r hr k hk' he =>
  (hg.block k he).elim (fun e => h r hr k hk' e) (fun e => by have := ((hk r hr).lt k hk').2; omega)
theorem Apart.new {w : World} {B : Nat} {R : List (Value × List (BitVec 8))} {v : Value} (hk : Keep w B R) (h : ∀ k, v.ownBlock = some k → w.heap.size ≤ k) : Apart v R := fun r hr k hk' he => by
  have := h k he
  have := ((hk r hr).lt k hk').2
  omega
end Go.Proofs.Ytjeddokenpkpnaa
