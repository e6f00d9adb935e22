/-
  A walker in memory; Walk, the closure, nearest, Pebbles, Steps.
-/
import Derived.Test.YtaphbkkklapdaaaDoorPebble
import Derived.Test.YtaphbkkklapdaaaDoorValue
import Derived.Test.YtaphbkkklapdaaaDoorGen
import Derived.Maps.OwnSet
import Derived.Maps.RangeWalk
namespace Go.Proofs.YtaphbkkklapdaaaDoor
open Go Go.RowKit Go.Proofs Go.Maps
theorem law : Keyed Tryd.prog 3 := int_keyed Tryd.underlying3
theorem size_int1 : (Tryd.prog.info? 3).map (·.size) = some 1 := by kernel_rfl
/-- an element, as it lies there -/
def readV (v : Value) : Option (DataW Value × List MemPlace) := some (.held v, [])
def hashV (l : List (BitVec 8)) : Value := .agg (l.map U8).toArray
theorem key_wf {x : Nat} (h : x ≤ 100000) : (Lit.int .i64 (x : Int)).wf = true := by
  simp [Lit.wf, IntKind.min, IntKind.max, IntKind.signed, IntKind.bits]; omega
theorem hkey_nat {x : Nat} (h : x ≤ 100000) : keyOf Tryd.prog 3 (.int .i64 (x : Int)) = some (.int .i64 (x : Int)) := keyOf_int_mk Tryd.underlying3 (key_wf h)
theorem own_tight {w : World} {b n : Nat} {D : DataW Value} (h : w.ownsMap Tryd.prog 3 readV b n D) : w.ownsMap Tryd.prog 3 readV b (Maps.size D) D := by
  obtain ⟨es, clock, hb, F, hs, rfl⟩ := h
  exact ⟨es, clock, hb, F, by simp [Maps.size, length_sorted], rfl⟩
/-- the map holds a value where each part begins, and no other -/
structure Peb (D : DataW Value) (seed : List (BitVec 8)) (ms : List Nat) : Prop where
  tidy : Tidy D
  has : ∀ x : Int, Maps.has D (.int .i64 x) = true ↔ ∃ p ∈ starts ms, x = ((p : Nat) : Int)
  val : ∀ p ∈ starts ms, ∀ zd, D.atKey (.int .i64 ((p : Nat) : Int)) zd = .held (hashV (steps seed p))
  size : Maps.size D = ms.length
def funV (bx : Nat) : Value := .func (.func 16) #[] #[.pointer (some ⟨bx, 0, none⟩)]
def walkC (n told bm bx s : Nat) : Array Value := #[.int .i64 n, .int .i64 told, .map (some bm), funV bx, .int .i64 s]
/-- a walker that still has these parts -/
structure WalkerAt (w : World) (lo bw bm bx : Nat) (seed : List (BitVec 8)) (n told s : Nat) (ms : List Nat) (D : DataW Value) : Prop where
  cells : w.heap[bw]? = some (.cells (walkC n told bm bx s) 46 (0, 0))
  box : w.heap[bx]? = some (.cells #[.pointer (some ⟨bw, 0, none⟩)] 24 (0, 0))
  map : w.ownsMap Tryd.prog 3 readV bm ms.length D
  peb : Peb D seed ms
  low : lo ≤ bw ∧ lo ≤ bm ∧ lo ≤ bx
  apart : bw ≠ bx
theorem WalkerAt.lt {w : World} {lo bw bm bx : Nat} {seed : List (BitVec 8)} {n told s : Nat} {ms : List Nat} {D : DataW Value} (h : WalkerAt w lo bw bm bx seed n told s ms D) : bw < w.heap.size ∧ bm < w.heap.size ∧ bx < w.heap.size :=
  ⟨lt_of_heap h.cells, h.map.lt, lt_of_heap h.box⟩
theorem own_map_upd {w w' : World} {b n : Nat} {D : DataW Value} {S : List Nat} (h : w.ownsMap Tryd.prog 3 readV b n D) (u : Upd S w w') (hn : b ∉ S) : w'.ownsMap Tryd.prog 3 readV b n D := by
  obtain ⟨es, clock, hb, r⟩ := h
  exact ⟨es, clock, u.heap hb hn, r⟩
theorem map_ne {w : World} {b n g : Nat} {D : DataW Value} (h : w.ownsMap Tryd.prog 3 readV b n D) {C : Array Value} {T : TypeId} {fr : Nat × Nat} (hc : w.heap[g]? = some (.cells C T fr)) : b ≠ g := by
  obtain ⟨es, clock, hb, r⟩ := h
  rintro rfl
  rw [hb] at hc
  cases hc
theorem WalkerAt.upd {w w' : World} {lo bw bm bx : Nat} {seed : List (BitVec 8)} {n told s : Nat} {ms : List Nat} {D : DataW Value} {S : List Nat} (h : WalkerAt w lo bw bm bx seed n told s ms D) (u : Upd S w w') (h1 : bw ∉ S) (h2 : bm ∉ S) (h3 : bx ∉ S) : WalkerAt w' lo bw bm bx seed n told s ms D :=
  ⟨u.heap h.cells h1, u.heap h.box h3, own_map_upd h.map u h2, h.peb, h.low, h.apart⟩
/-- 'm[k] = v' in a literal -/
theorem wpList_insert_own {H : Type} {P : Program} (w : World) {ops : Array Oper} {rest : List Oper} {o : Oper} {a : Act} {Q : Exit → Act → World → Prop}
    (hg : o.guard = none) (m x v : Operand) (t : TypeId) (hop : o.op = Op.insert t m x v)
    (k e : TypeId) (K : Keyed P k) (ht : P.underlying t = some (.map k e)) (R : Value → Option (DataW H × List MemPlace)) (b n : Nat) (D : DataW H)
    (hm : a.eval m = .map (some b)) (hown : w.ownsMap P k R b n D) (hn : n < maxLen) (key val : Value) (kl : Lit) (hx : a.eval x = key) (hv : a.eval v = val) (hkey : keyOf P k key = some kl)
    (d : DataW H) (ps : List MemPlace) (hval : R val = some (d, ps))
    (hK : ∀ w', w'.ownsMap P k R b (n + 1) (D.put kl d) → w.grownBy w' (some b) → wpList P ops Q rest (a.put o.dst undef) w') :
    wpList P ops Q (o :: rest) a w := by
  refine wpList_plain hg fun K' hK' => ?_
  obtain ⟨w', hrun, r1, r2⟩ := hown.update K ht hn hkey hval
  unfold Oper.wp
  simp [execOp, hop, hm, hx, hv, hrun, Result.andThen]
  exact hK' _ _ (hK w' r1 r2)
theorem lit_int_ne {a b : Int} (h : a ≠ b) : Lit.int .i64 a ≠ Lit.int .i64 b := fun e => h (by injection e)
theorem isKey_int (a : Int) : WideAt.IsKeyLit (Lit.int .i64 a) := by first | trivial | simp [WideAt.IsKeyLit]
theorem Peb.start {D : DataW Value} {seed : List (BitVec 8)} {n : Nat} (hD : Tidy D) (h0 : Maps.size D = 0) (hh : ∀ k, Maps.has D k = false) : Peb (D.put (.int .i64 0) (.held (hashV seed))) seed [n] := by
  refine ⟨hD.put (isKey_int _) _, fun x => ?_, fun p hp zd => ?_, ?_⟩
  · by_cases hx : x = 0
    · subst hx
      rw [has_put_same hD.isMap (isKey_int _)]
      simp [starts]
    · rw [has_put_other (lit_int_ne hx), hh]
      simp [starts]
      exact hx
  · have : p = 0 := by simpa [starts] using hp
    subst this
    exact atKey_put_same hD.isMap (isKey_int _) _ _
  · rw [size_put hD, hh, h0]
    rfl
theorem Peb.half {D : DataW Value} {seed : List (BitVec 8)} {m : Nat} {r : List Nat} (h : Peb D seed (m :: r)) (hm : 2 ≤ m) : Peb (D.put (.int .i64 ((m / 2 + r.sum : Nat) : Int)) (.held (hashV (steps seed (m / 2 + r.sum))))) seed ((m - m / 2) :: m / 2 :: r) := by
  have hlt : ∀ p ∈ starts (m :: r), p ≤ r.sum := fun p hp => by have := starts_le _ _ hp; simpa using this
  have hno : Maps.has D (.int .i64 ((m / 2 + r.sum : Nat) : Int)) = false := by
    rw [Bool.eq_false_iff]
    intro hh
    obtain ⟨p, h1, h2⟩ := (h.has _).1 hh
    have := hlt p h1
    omega
  have hs : starts ((m - m / 2) :: m / 2 :: r) = (m / 2 + r.sum) :: starts (m :: r) := by simp [starts]
  refine ⟨h.tidy.put (isKey_int _) _, fun x => ?_, fun p hp2 zd => ?_, ?_⟩
  · rw [hs]
    by_cases hx : x = ((m / 2 + r.sum : Nat) : Int)
    · subst hx
      rw [has_put_same h.tidy.isMap (isKey_int _)]
      simp
    · rw [has_put_other (lit_int_ne hx), h.has]
      constructor
      · rintro ⟨p, h1, h2⟩; exact ⟨p, List.mem_cons_of_mem _ h1, h2⟩
      · rintro ⟨p, h1, h2⟩
        rcases List.mem_cons.1 h1 with h1 | h1
        · exact absurd (by rw [h2, h1]) hx
        · exact ⟨p, h1, h2⟩
  · rw [hs] at hp2
    rcases List.mem_cons.1 hp2 with rfl | hp2
    · exact atKey_put_same h.tidy.isMap (isKey_int _) _ _
    · have := hlt p hp2
      rw [atKey_put_other (lit_int_ne (by omega))]
      exact h.val p hp2 zd
  · rw [size_put h.tidy, hno, if_neg (by simp), h.size]
    simp
theorem Peb.pop {D : DataW Value} {seed : List (BitVec 8)} {m : Nat} {r : List Nat} (h : Peb D seed (m :: r)) (hp : ∀ x ∈ m :: r, 1 ≤ x) : Peb (D.del (.int .i64 ((r.sum : Nat) : Int))) seed r := by
  have hlt : ∀ p ∈ starts r, p < r.sum := fun p hp2 => starts_lt r p (fun x hx => hp x (List.mem_cons_of_mem _ hx)) hp2
  have hyes : Maps.has D (.int .i64 ((r.sum : Nat) : Int)) = true := (h.has _).2 ⟨r.sum, by simp [starts], rfl⟩
  refine ⟨h.tidy.del _, fun x => ?_, fun p hp2 zd => ?_, ?_⟩
  · by_cases hx : x = ((r.sum : Nat) : Int)
    · subst hx
      rw [has_del_same]
      constructor
      · intro h1; cases h1
      · rintro ⟨p, h1, h2⟩; have := hlt p h1; omega
    · rw [has_del_other (lit_int_ne hx), h.has]
      constructor
      · rintro ⟨p, h1, h2⟩
        rcases List.mem_cons.1 (show p ∈ r.sum :: starts r from h1) with h1 | h1
        · exact absurd (by rw [h2, h1]) hx
        · exact ⟨p, h1, h2⟩
      · rintro ⟨p, h1, h2⟩; exact ⟨p, List.mem_cons_of_mem _ h1, h2⟩
  · have := hlt p hp2
    rw [atKey_del_other (lit_int_ne (by omega))]
    exact h.val p (List.mem_cons_of_mem _ hp2) zd
  · have := size_del (k := .int .i64 ((r.sum : Nat) : Int)) h.tidy
    rw [hyes, h.size] at this
    simp at this
    omega
set_option maxRecDepth 100000 in
theorem steps_ (w : World) (lo bw bm bx n told s : Nat) (seed : List (BitVec 8)) (ms : List Nat) (D : DataW Value) (h : WalkerAt w lo bw bm bx seed n told s ms D) :
    Calls Tryd.prog 14 #[.pointer (some ⟨bw, 0, none⟩)] w fun e w' => e = .returned (.int .i64 s) ∧ Upd [] w w' := by
  have hc : w.cell? ⟨bw, 4, none⟩ = some (.int .i64 s) := by rw [cell_of_row _ _ _ _ _ _ h.cells]; rfl
  clear h
  go_enter Tryd.func14, Tryd.ntmps14
  go_wp2_with (fail)
  go_ret
  exact ⟨rfl, Upd.refl _ _⟩
set_option maxRecDepth 100000 in
theorem pebbles_ (w : World) (lo bw bm bx n told s : Nat) (seed : List (BitVec 8)) (ms : List Nat) (D : DataW Value) (h : WalkerAt w lo bw bm bx seed n told s ms D) :
    Calls Tryd.prog 20 #[.pointer (some ⟨bw, 0, none⟩)] w fun e w' => e = .returned (.int .i64 ms.length) ∧ Upd [] w w' := by
  have hc : w.cell? ⟨bw, 2, none⟩ = some (.map (some bm)) := by rw [cell_of_row _ _ _ _ _ _ h.cells]; rfl
  have hm := h.map
  have hs := h.peb.size
  clear h
  go_enter Tryd.func20, Tryd.ntmps20
  go_wp2_with (at_len; refine wpList_len_own _ rfl _ 44 rfl 3 23 Tryd.underlying44 readV bm ms.length D (by with_unfolding_all exact rfl) hm ?_)
  go_ret
  exact ⟨rfl, Upd.refl _ _⟩
set_option maxRecDepth 100000 in
set_option maxHeartbeats 3200000 in
theorem step1_ (w : World) (lo bw bm bx n told s : Nat) (seed v : List (BitVec 8)) (ms : List Nat) (D : DataW Value) (h : WalkerAt w lo bw bm bx seed n told s ms D) (hv : v.length = 32) (hs : s ≤ 1000000) (hg : Gl256 w) (hf : GlFirst256 w) (hgl : 1 < lo) (hfl : 0 < lo) :
    Calls Tryd.prog 16 #[hashV v, .pointer (some ⟨bx, 0, none⟩)] w fun e w' => e = .returned (hashV (sha256 v)) ∧ WalkerAt w' lo bw bm bx seed n told (s + 1) ms D ∧ Upd [bw] w w' := by
  have hsz := size_of32 hv
  have hvn := sha256_length v
  have hsn := size_of32 hvn
  have hon := same_size32 hvn
  have han := one_of32 (sha256 v)
  have hlow := h.low
  have hap := h.apart
  have hmne := map_ne h.map h.cells
  have hlt := h.lt
  have hcells := h.cells
  have hbox := h.box
  have hsi : (s : Int) ≤ 1000000 := by omega
  have HST : Hid (∀ W, Upd [bw] w W → Calls Tryd.prog 11 #[.agg (v.map U8).toArray] W fun e w' => e = .returned (.agg ((sha256 v).map U8).toArray) ∧ Upd [] W w') := fun W hW => step_ W v hv (hg.upd hW (by simp; omega)) (hf.upd hW (by simp; omega))
  unfold hashV
  obtain ⟨cv, hcv⟩ : ∃ c, (v.map U8).toArray = c := ⟨_, rfl⟩
  obtain ⟨cn, hcn⟩ : ∃ c, ((sha256 v).map U8).toArray = c := ⟨_, rfl⟩
  rw [hcv] at hsz HST
  rw [hcn] at hsn hon han HST
  rw [hcv, hcn]
  have HW := Lib.hid h
  clear hcv hcn h hv hg hf hvn
  go_enter Tryd.func16, Tryd.ntmps16
  go_wp2_with (first
    | (with_reducible refine arm_box (by with_unfolding_all exact rfl) ?_))
  intro b2 w2 hb2 k2 hU2 hz2
  change w2.heap[b2]? = some (.cells cv 23 (0, 0)) at k2
  go_wp2_with (with_reducible refine arm_alloc (zero_h32 _) ?_)
  intro b3 w3 hb3 k3 hU3 hz3
  change w3.heap[b3]? = some (.cells (zrow8 32) 23 (0, 0)) at k3
  have hV3 := hU2.trans hU3
  have k23 := hU3.heap k2 (by simp)
  have hc3 := hV3.heap hcells (by simp)
  have hx3 := hV3.heap hbox (by simp)
  have hl2 : w.heap.size ≤ b2 ∧ w.heap.size ≤ b3 ∧ b2 ≠ b3 := ⟨by omega, by have := hU2.size; omega, by have := lt_of_heap k2; omega⟩
  have cx : w3.cell? ⟨bx, 0, none⟩ = some (.pointer (some ⟨bw, 0, none⟩)) := by rw [cell_of_row _ _ _ _ _ _ hx3]; rfl
  have c4 : w3.cell? ⟨bw, 4, none⟩ = some (.int .i64 s) := by rw [cell_of_row _ _ _ _ _ _ hc3]; rfl
  have hsw : 4 < (walkC n told bm bx s).size := by simp [walkC]
  clear hb2 k2 hU2 hz2 hb3 hU3 hz3 hcells hbox hx3
  go_wp2_with (with_reducible refine arm_store_at (by with_unfolding_all exact rfl) (by with_unfolding_all exact rfl) hc3 hsw (by with_unfolding_all exact rfl) size_int1 (by with_unfolding_all exact rfl) ?_)
  intro w4 hc4 hX4 hz4
  change w4.heap[bw]? = some (.cells (walkC n told bm bx (s + 1)) 46 (0, 0)) at hc4
  have k24 := hX4.heap k23 (fun hm => by have := List.mem_singleton.1 hm; omega)
  have k34 := hX4.heap k3 (fun hm => by have := List.mem_singleton.1 hm; omega)
  have hV4 : Upd [bw] w w4 := hV3.of0.trans hX4
  clear hc3 hX4 hz4 k23 k3 cx c4 hsw hV3
  go_wp2_with (with_reducible refine arm_load (by with_unfolding_all exact rfl) k24 Tryd.underlying23 (by with_unfolding_all exact rfl) hsz ?_)
  with_reducible refine (HST.out _ hV4).mono ?_
  rintro e w5 ⟨rfl, hU5⟩
  have k35 := hU5.heap k34 (by simp)
  have hc5 := hU5.heap hc4 (by simp)
  have hV5 := hV4.trans0 hU5
  clear k24 k34 hc4 hU5 hV4
  go_wp2_with (with_reducible refine arm_store (by with_unfolding_all exact rfl) (by with_unfolding_all exact rfl) k35 hsn hon han ?_)
  intro w6 k36 hX6 hz6
  go_wp2_with (fail)
  have hc6 := hX6.heap hc5 (fun hm => by have := List.mem_singleton.1 hm; omega)
  have hV6 : Upd [bw] w w6 := hV5.trans' hX6 (fun i hm hl => by have := List.mem_singleton.1 hm; omega)
  refine bodyPost_ret (v := .agg cn) (results_cell_row rfl _ _ b3 23 _ (0, 0) _ rfl k36 Tryd.underlying23 rfl hsn) rfl ⟨rfl, ⟨hc6, hV6.heap HW.out.box (fun hm => hap (List.mem_singleton.1 hm).symm), own_map_upd HW.out.map hV6 (fun hm => hmne (List.mem_singleton.1 hm)), HW.out.peb, hlow, hap⟩, hV6⟩
set_option maxRecDepth 100000 in
set_option maxHeartbeats 3200000 in
theorem nearest_ (w : World) (lo bw bm bx n told s m : Nat) (seed : List (BitVec 8)) (r : List Nat) (D : DataW Value) (h : WalkerAt w lo bw bm bx seed n told s (m :: r) D) :
    Calls Tryd.prog 18 #[.pointer (some ⟨bw, 0, none⟩)] w fun e w' => e = .returned (.int .i64 r.sum) ∧ Upd [] w w' := by
  have hc : w.cell? ⟨bw, 2, none⟩ = some (.map (some bm)) := by rw [cell_of_row _ _ _ _ _ _ h.cells]; rfl
  have hm := h.map
  have HP := Lib.hid h.peb
  have hle : ∀ p ∈ starts (m :: r), p ≤ r.sum := fun p hp => by have := starts_le _ _ hp; simpa using this
  have HLE := Lib.hid hle
  have hB : w.heap.size = w.heap.size := rfl
  clear h hle hB
  go_enter Tryd.func18, Tryd.ntmps18
  go_wp2_with (at_range; refine wpList_range_own _ rfl _ 44 rfl 3 23 law Tryd.underlying44 readV bm _ D (by with_unfolding_all exact rfl) hm ?_; intro w1 hrg1 hg1 hs1)
  obtain ⟨rb, hrb⟩ : ∃ r, w.heap.size = r := ⟨_, rfl⟩
  rw [hrb] at hrg1 ⊢
  have hU1 : Upd [] w w1 := (Upd.refl _ w).grown hg1 (fun k hk => by cases hk)
  have HRB : Hid (w.heap.size ≤ rb) := Nat.le_of_eq hrb
  clear hm hc hg1 hs1 hrb
  go_frame
  have HS0 : Hid (∀ p ∈ starts (m :: r), Maps.has D (.int .i64 ((p : Nat) : Int)) = true) := fun p hp => (HP.out.has _).2 ⟨p, hp, rfl⟩
  have HU1 := Lib.hid hU1
  have HRG1 := Lib.hid hrg1
  clear hU1 hrg1
  go_loopw [3, 4] (fun av kv wr => ∃ (left : Lit → Bool) (cnt x : Nat), av = .int .i64 x ∧ wr.ranges Tryd.prog 3 readV bm rb (m :: r).length D left cnt ∧ (∀ p ∈ starts (m :: r), left (.int .i64 ((p : Nat) : Int)) = true ∨ p ≤ x) ∧ (x = 0 ∨ x ∈ starts (m :: r)) ∧ (∀ kl, left kl = true → Maps.has D kl = true) ∧ Upd [] w wr) (fun _ _ wr => wr.rangeLeft bm rb)
  case atStart => exact ⟨_, _, 0, rfl, HRG1.out, fun p hp => .inl (HS0.out p hp), .inl rfl, fun kl h => h, HU1.out⟩
  case round =>
    obtain ⟨left, cnt, x, rfl, hrg, hle, hx, hlf, hU⟩ := hrel
    have HL := Lib.hid hle
    have HX := Lib.hid hx
    have HLF := Lib.hid hlf
    have HU := Lib.hid hU
    have HRG := Lib.hid hrg
    clear hle hx hlf hU
    go_wp2_with (at_next; refine wpList_next_ranges (α := Int) (β := Value) _ rfl _ rfl 3 law readV (Value.int .i64) id (fun key kl hkey => by obtain ⟨x, rfl, _⟩ := Maps.keyOf_int_inv Tryd.underlying3 hkey; exact ⟨x, rfl⟩) (fun v y hv => ⟨v, rfl⟩) bm rb _ D left cnt (by with_unfolding_all exact rfl) hrg ?_ ?_)
    · intro h0 hl0
      go_wp2_with (fail)
      go_ret
      refine ⟨?_, HU.out⟩
      have h1 : r.sum ≤ x := by
        rcases HL.out r.sum (by simp [starts]) with h | h
        · rw [hl0] at h; cases h
        · exact h
      have h2 : x ≤ r.sum := by
        rcases HX.out with h | h
        · omega
        · exact HLE.out x h
      rw [show x = r.sum by omega]
      rfl
    · intro kx c kl y ps w2 cnt2 hkx hlk hR hat hrg2 hlt hg2 hs2 hen
      obtain ⟨kx', e1, rfl, _⟩ := Maps.keyOf_int_inv Tryd.underlying3 hkx
      injection e1 with _ e1
      subst e1
      obtain ⟨p, hp, rfl⟩ := (HP.out.has kx).1 (HLF.out _ hlk)
      have HPS := Lib.hid hp
      have HRG2 := Lib.hid hrg2
      have HLT := Lib.hid hlt
      have HU2 : Hid (Upd [] w w2) := HU.out.grown hg2 (fun k hk hl => by cases hk; have := HRB.out; omega)
      clear hp hkx hlk hR hat hrg2 hlt hg2 hs2
      have HLN : Hid (∀ q X, q ∈ starts (m :: r) → x ≤ X → p ≤ X → (left (.int .i64 ((q : Nat) : Int)) && !(Lit.int .i64 ((q : Nat) : Int)).sameKey (.int .i64 ((p : Nat) : Int))) = true ∨ q ≤ X) := fun q X hq h1 h2 => by
        by_cases e : q = p
        · right; omega
        · rcases HL.out q hq with h | h
          · left
            rw [h, sameKey_ne (lit_int_ne (by omega))]
            rfl
          · right; omega
      have HLG : Hid (∀ kl, (left kl && !kl.sameKey (.int .i64 ((p : Nat) : Int))) = true → Maps.has D kl = true) := fun kl hk => HLF.out _ (by rw [Bool.and_eq_true] at hk; exact hk.1)
      by_cases hpx : p ≤ x
      · have hpx' : (p : Int) ≤ (x : Int) := by omega
        have hpx2 : ¬ (x : Int) < (p : Int) := by omega
        have HPX := Lib.hid hpx
        clear hpx
        go_wp2_with (fail)
        exact ⟨⟨_, cnt2, x, rfl, HRG2.out, fun q hq => HLN.out q x hq (Nat.le_refl _) HPX.out, HX.out, HLG.out, HU2.out⟩, by rw [HRG2.out.left_eq, hrg.left_eq]; exact HLT.out⟩
      · have hpx' : (x : Int) < (p : Int) := by omega
        have hpx2 : ¬ (p : Int) ≤ (x : Int) := by omega
        have HPX : Hid (x ≤ p) := by show x ≤ p; omega
        clear hpx
        go_wp2_with (fail)
        exact ⟨⟨_, cnt2, p, rfl, HRG2.out, fun q hq => HLN.out q p hq HPX.out (Nat.le_refl _), .inr HPS.out, HLG.out, HU2.out⟩, by rw [HRG2.out.left_eq, hrg.left_eq]; exact HLT.out⟩
theorem zero_walkp (w : World) : (zeroValue 24).run Tryd.prog w = .ok (.pointer none) w := by kernel_rfl
theorem size_walkp : (Tryd.prog.info? 24).map (·.size) = some 1 := by kernel_rfl
theorem size_fn : (Tryd.prog.info? 36).map (·.size) = some 1 := by kernel_rfl
theorem built_walker (n bm : Nat) : Tryd.prog.built 46 [(0, .int .i64 n), (2, .map (some bm))] = some #[.int .i64 n, .int .i64 0, .map (some bm), .nilFunc, .int .i64 0] := by kernel_rfl
set_option maxRecDepth 100000 in
set_option maxHeartbeats 3200000 in
theorem walk_ (w : World) (seed : List (BitVec 8)) (n : Nat) (hs : seed.length = 32) (hn : 1 ≤ n) (hn2 : n ≤ 4096) :
    Calls Tryd.prog 6 #[.agg (seed.map U8).toArray, .int .i64 n] w fun e w' => ∃ bw bm bx D, e = .returned (.tuple #[.pointer (some ⟨bw, 0, none⟩), .bool true]) ∧ WalkerAt w' w.heap.size bw bm bx seed n 0 0 [n] D ∧ Upd [] w w' := by
  have hsz := size_of32 hs
  have hr : mayRide (n : Int) = true := by simp [mayRide]; omega
  have hbt := built_walker n
  have hmm := @run_makeMap Tryd.prog
  obtain ⟨cs, hcs⟩ : ∃ c, (seed.map U8).toArray = c := ⟨_, rfl⟩
  have HCS := Lib.hid hcs
  rw [hcs] at hsz ⊢
  clear hcs
  go_enter Tryd.func6, Tryd.ntmps6
  go_wp2_with (with_reducible refine arm_box (by with_unfolding_all exact rfl) ?_)
  intro b2 w2 hb2 k2 hU2 hz2
  change w2.heap[b2]? = some (.cells cs 23 (0, 0)) at k2
  go_wp2_with (fail)
  refine (rides_ _ _).mono ?_
  rintro e w3 ⟨rfl, rfl⟩
  rw [hr]
  clear hr hb2 hz2
  have k2' : ∀ o, (w2.alloc o).heap[b2]? = some (.cells cs 23 (0, 0)) := fun o => hget_old k2
  have hown : Hid ((w2.alloc (.map #[] 0)).ownsMap Tryd.prog 3 readV w2.heap.size 0 (.map [])) := World.ownsMap_made _ _ _ _
  have HUa : Hid (Upd [] w (w2.alloc (.map #[] 0))) := hU2.alloc _
  go_wp2_with (first
    | (with_reducible refine arm_load (by with_unfolding_all exact rfl) (k2' _) Tryd.underlying23 (by with_unfolding_all exact rfl) hsz ?_)
    | (refine wpList_insert_own _ rfl _ _ _ 44 rfl 3 23 law Tryd.underlying44 readV w2.heap.size 0 (.map []) (by with_unfolding_all exact rfl) hown.out (by simp [maxLen]) (.int .i64 0) (.agg cs) (.int .i64 0) (by with_unfolding_all exact rfl) (by with_unfolding_all exact rfl) (hkey_nat (x := 0) (by omega)) _ [] rfl ?_))
  intro w4 hown4 hgr4
  obtain ⟨bm, hbm⟩ : ∃ b, w2.heap.size = b := ⟨_, rfl⟩
  rw [hbm] at hown4 hgr4
  have HBM : Hid (w.heap.size ≤ bm) := by show w.heap.size ≤ bm; have := hU2.size; omega
  have hU4 : Upd [] w w4 := HUa.out.grown hgr4 (fun k hk hl => by cases hk; have := HBM.out; omega)
  have hP4 : Peb ((DataW.map []).put (.int .i64 0) (.held (.agg cs))) seed [n] := by
    have := Peb.start (D := (DataW.map [] : DataW Value)) (seed := seed) (n := n) tidy_empty rfl (fun k => rfl)
    unfold hashV at this
    rwa [HCS.out] at this
  obtain ⟨D, hD⟩ : ∃ D, (DataW.map [] : DataW Value).put (.int .i64 0) (.held (.agg cs)) = D := ⟨_, rfl⟩
  rw [hD] at hown4 hP4
  have HOWN4 := Lib.hid hown4
  have HP4 := Lib.hid hP4
  have hbt' := hbt bm
  rw [hbm]
  clear hown HUa hmm k2' k2 hU2 hbm hbt hown4 hgr4 hP4 hD hsz
  go_wp2_with (first
    | (with_reducible refine arm_build2 (by with_unfolding_all exact rfl) (by with_unfolding_all exact rfl) hbt' ?_)
    | (with_reducible refine arm_box (by with_unfolding_all exact rfl) ?_))
  intro bw w5 hb5 k5 hU5 hz5
  change w5.heap[bw]? = some (.cells #[.int .i64 n, .int .i64 0, .map (some bm), .nilFunc, .int .i64 0] 46 (0, 0)) at k5
  go_wp2_with (with_reducible refine arm_alloc (zero_walkp _) ?_)
  intro bx w6 hb6 k6 hU6 hz6
  change w6.heap[bx]? = some (.cells #[.pointer none] 24 (0, 0)) at k6
  have k56 := hU6.heap k5 (by simp)
  have hne : bw ≠ bx := by have := lt_of_heap k5; omega
  have hl : w.heap.size ≤ bw ∧ w.heap.size ≤ bx := by have h1 := hU4.size; have h2 := hU5.size; omega
  have hV6 := (hU4.trans hU5).trans hU6
  have hom6 := own_map_upd (own_map_upd HOWN4.out hU5 (by simp)) hU6 (by simp)
  have HL : Hid (w.heap.size ≤ bw ∧ w.heap.size ≤ bx ∧ bw ≠ bx) := ⟨hl.1, hl.2, hne⟩
  have HOM6 := Lib.hid hom6
  clear hb5 k5 hU5 hz5 hb6 hU6 hz6 hU4 hl hne hom6
  go_wp2_with (with_reducible refine arm_store_at (by with_unfolding_all exact rfl) (by with_unfolding_all exact rfl) k6 (by simp) (by with_unfolding_all exact rfl) size_walkp (by with_unfolding_all exact rfl) ?_)
  intro w7 k7 hX7 hz7
  change w7.heap[bx]? = some (.cells #[.pointer (some ⟨bw, 0, none⟩)] 24 (0, 0)) at k7
  have k57 := hX7.heap k56 (fun hm => HL.out.2.2 (List.mem_singleton.1 hm))
  have hV7 : Upd [] w w7 := hV6.trans' hX7 (fun i hm hl => by have := HL.out; have := List.mem_singleton.1 hm; omega)
  have cx : w7.cell? ⟨bx, 0, none⟩ = some (.pointer (some ⟨bw, 0, none⟩)) := by rw [cell_of_row _ _ _ _ _ _ k7]; rfl
  have hmx : bm ≠ bx := map_ne HOM6.out k6
  have hmw : bm ≠ bw := map_ne HOM6.out k56
  have HOM7 := Lib.hid (own_map_upd HOM6.out hX7 (fun hm => hmx (List.mem_singleton.1 hm)))
  have HK7 := Lib.hid k7
  clear k6 hz7 hX7 k56 k7
  go_wp2_with (with_reducible refine arm_store_at (by with_unfolding_all exact rfl) (by with_unfolding_all exact rfl) k57 (by simp) (by with_unfolding_all exact rfl) size_fn (by with_unfolding_all exact rfl) ?_)
  intro w8 k8 hX8 hz8
  change w8.heap[bw]? = some (.cells (walkC n 0 bm bx 0) 46 (0, 0)) at k8
  have k78 := hX8.heap HK7.out (fun hm => HL.out.2.2 (List.mem_singleton.1 hm).symm)
  have c8 : w8.cell? ⟨bx, 0, none⟩ = some (.pointer (some ⟨bw, 0, none⟩)) := by rw [cell_of_row _ _ _ _ _ _ k78]; rfl
  have hV8 : Upd [] w w8 := hV7.trans' hX8 (fun i hm hl => by have := HL.out; have := List.mem_singleton.1 hm; omega)
  have HOM8 := Lib.hid (own_map_upd HOM7.out hX8 (fun hm => hmw (List.mem_singleton.1 hm)))
  clear cx k57 hX8 hz8 hV7
  go_wp2_with (fail)
  refine bodyPost_ret (results_tmp2 rfl _ _ _) rfl ?_
  exact ⟨bw, bm, bx, D, rfl, ⟨k8, k78, HOM8.out, HP4.out, ⟨HL.out.1, HBM.out, HL.out.2.1⟩, HL.out.2.2⟩, hV8⟩
set_option maxRecDepth 100000 in
theorem walk_bad (w : World) (cs : Array Value) (n : Int) (hn : mayRide n = false) :
    Calls Tryd.prog 6 #[.agg cs, .int .i64 n] w fun e w' => e = .returned (.tuple #[.pointer none, .bool false]) ∧ Upd [] w w' := by
  go_enter Tryd.func6, Tryd.ntmps6
  go_wp2_with (with_reducible refine arm_box (by with_unfolding_all exact rfl) ?_)
  intro b2 w2 hb2 k2 hU2 hz2
  go_wp2_with (fail)
  refine (rides_ _ _).mono ?_
  rintro e w3 ⟨rfl, rfl⟩
  rw [hn]
  go_wp2_with (fail)
  refine bodyPost_ret (results_tmp2 rfl _ _ _) rfl ?_
  exact ⟨rfl, hU2⟩
end Go.Proofs.YtaphbkkklapdaaaDoor
