/-
  Derive: what is expanded from a label, a byte 0 and a number's eight bytes.
-/
import Derived.Test.YtgpieipflidkpaaDoorExpand
import Derived.Test.YtgpieipflidkpaaDoorStore64
import Derived.Laws.IdiomStrings
namespace Go.Proofs.YtgpieipflidkpaaDoor
open Go Go.RowKit Go.Proofs
/-- a string's bytes -/
def bytesOfS (s : ByteArray) : List (BitVec 8) := s.data.toList.map fun b => BitVec.ofNat 8 b.toNat
theorem bytesOfS_length (s : ByteArray) : (bytesOfS s).length = s.size := by simp [bytesOfS]
theorem rd_string (W : World) (s : ByteArray) (e : TypeId) (fr : Nat × Nat) (h : s.size ≤ maxLen) :
    RdB (W.drew.alloc (.cells (bytesRow s (grownCap W s.size 0 e)) e fr)) (.slice (some ⟨W.heap.size, 0, none⟩) s.size (grownCap W s.size 0 e)) (bytesOfS s) := by
  have hb : Bytes (W.drew.alloc (.cells (bytesRow s (grownCap W s.size 0 e)) e fr)) W.heap.size 0 (bytesOfS s) := Bytes.of_row (hget_new rfl) (bytesOfS s) 0 (fun i hi => by
    have hi' : i < s.data.size := by rw [bytesOfS_length] at hi; exact hi
    rw [Nat.zero_add, bytesRow_at s _ i hi']
    simp only [bytesOfS, List.getElem_map, Array.getElem_toList, U8]
    congr 2
    rw [BitVec.toNat_ofNat, Nat.mod_eq_of_lt (by have := s.data[i].toNat_lt; omega)])
  refine ⟨_, _, by rw [bytesOfS_length], by rw [bytesOfS_length]; exact grownCap_ge _ _ _ _, grownCap_le_maxLen _ _ _ _ h, fun _ => ⟨_, _, rfl, hb⟩⟩
/-- a string's bytes, laid into new memory -/
theorem arm_strbytes {P : Program} {ops : Array Oper} {rest : List Oper} {a : Act} {w : World} {Q : Exit → Act → World → Prop} {dst : Option Tmp} {src T e type : TypeId} {pos : String} {after : Array Edge} {x : Operand} {s : ByteArray}
    (hs : P.underlying src = some .string) (hd : P.underlying T = some (.slice e)) (he : P.underlying e = some (.int .u8)) (hx : a.eval x = .string s) (hl : s.size ≤ maxLen)
    (h : ∀ v w', RdB w' v (bytesOfS s) → Upd [] w w' → wpList P ops Q rest (a.put dst v) w') : wpList P ops Q (⟨dst, .convert src T x, type, pos, after, none⟩ :: rest) a w := by
  refine wpList_plain rfl fun K hK => ?_
  unfold Oper.wp execOp
  simp only [hx, Sem.run_bind, Sem.run_pure, Result.andThen_ok, run_bytes_of_string w src T e s hs hd he]
  exact hK _ _ (h _ _ (rd_string w s e _ hl) ((Upd.refl [] w).drew.alloc _))
def derInfo (s : ByteArray) (n : Nat) : List (BitVec 8) := bytesOfS s ++ ([0] ++ tell64 (BitVec.ofNat 64 n))
theorem derInfo_length (s : ByteArray) (n : Nat) : (derInfo s n).length = s.size + 9 := by simp [derInfo, bytesOfS_length, tell64_length]
theorem results_agg_tmp {P : Program} {fn : Func} {p u : Tmp} {ty : TypeId} (h : fn.results = #[.cell p ty, .tmp u]) (tmps : Array Value) (w : World) (g : Nat) (t : TypeId) (cs : Array Value) (fr : Nat × Nat) (d : TypeDesc)
    (hp : tmps.getD p undef = .pointer (some ⟨g, 0, none⟩)) (hg : w.heap[g]? = some (.cells cs t fr))
    (hu : P.underlying ty = some d) (hd : (match d with | .struct _ | .array _ _ => true | _ => false) = true) (hi : (P.info? ty).map (·.size) = some cs.size) :
    (results fn tmps).run P w = .ok (.tuple #[.agg cs, tmps.getD u undef]) w := by
  rw [results_cell_tmp h, hp]
  simp [asAddr, run_loadVar_row w g t ty cs fr d hg hu hd hi, Result.andThen]
theorem size_z : (Tryd.prog.info? 23).map (·.size) = some (zrow8 32).size := by kernel_rfl
theorem zrow_one : (zrow8 32).all (·.oneCell') = true := by rw [zrow_h]; simp
theorem splice_all (l : List (BitVec 8)) (h : l.length = 32) : splice ((List.replicate 32 (0 : BitVec 8)).map U8) 0 ((l.take 32).map U8) = l.map U8 := by
  unfold splice
  rw [show l.take 32 = l from List.take_of_length_le (by omega)]
  simp [h]
set_option maxRecDepth 100000 in
set_option maxHeartbeats 3200000 in
theorem derive_bad (w : World) (ks : Array Value) (str : ByteArray) (n : Int) (hbad : 32 < str.size ∨ n < 0 ∨ n > 2147483647) :
    Calls Tryd.prog 10 #[.agg ks, .string str, .int .i64 n] w fun e w' => e = .returned (.tuple #[.agg (zrow8 32), .bool false]) ∧ Upd [] w w' := by
  have hb := built_hash
  have hsz := size_z
  have hone := zrow_one
  obtain ⟨cz, hcz⟩ : ∃ c, zrow8 32 = c := ⟨_, rfl⟩
  have hzz : ∀ W, (zeroValue 23).run Tryd.prog W = .ok (.agg cz) W := fun W => by rw [← hcz]; exact zero256 W
  have HZZ := Lib.hid hzz
  rw [hcz] at hb hsz hone ⊢
  clear hcz hzz
  by_cases c1 : 32 < str.size
  · have d1 : (str.size : Int) > 32 := by omega
    clear hbad c1
    go_enter Tryd.func10, Tryd.ntmps10
    go_wp2_with (with_reducible refine arm_box (by with_unfolding_all exact rfl) ?_)
    intro b3 w3 hb3 k3 hU3 hz3
    go_wp2_with (with_reducible refine arm_alloc (HZZ.out _) ?_)
    intro b6 w6 hb6 k6 hU6 hz6
    change w6.heap[b6]? = some (.cells cz 23 (0, 0)) at k6
    have hV6 := hU3.trans hU6
    have hl6 : w.heap.size ≤ b6 := by have := hU3.size; omega
    clear hb3 hz3 hb6 hz6 k3 hU3 hU6
    go_wp2_with (first | (with_reducible refine arm_build0 hb ?_) | (with_reducible refine arm_store (by with_unfolding_all exact rfl) (by with_unfolding_all exact rfl) k6 hsz rfl hone ?_))
    intro w5 k5 hX5 hz5
    go_wp2_with (fail)
    refine bodyPost_ret (v := .tuple #[.agg cz, .bool false]) (results_agg_tmp (p := 6) (u := 7) rfl _ _ b6 23 _ (0, 0) _ rfl k5 Tryd.underlying23 rfl hsz) rfl ⟨rfl, ?_⟩
    exact hV6.trans' hX5 (fun i hm hi => by simp at hm; omega)
  · by_cases c2 : n < 0
    · have d1 : ¬ ((str.size : Int) > 32) := by omega
      clear hbad c1
      go_enter Tryd.func10, Tryd.ntmps10
      go_wp2_with (with_reducible refine arm_box (by with_unfolding_all exact rfl) ?_)
      intro b3 w3 hb3 k3 hU3 hz3
      go_wp2_with (with_reducible refine arm_alloc (HZZ.out _) ?_)
      intro b6 w6 hb6 k6 hU6 hz6
      change w6.heap[b6]? = some (.cells cz 23 (0, 0)) at k6
      have hV6 := hU3.trans hU6
      have hl6 : w.heap.size ≤ b6 := by have := hU3.size; omega
      clear hb3 hz3 hb6 hz6 k3 hU3 hU6
      go_wp2_with (first | (with_reducible refine arm_build0 hb ?_) | (with_reducible refine arm_store (by with_unfolding_all exact rfl) (by with_unfolding_all exact rfl) k6 hsz rfl hone ?_))
      intro w5 k5 hX5 hz5
      go_wp2_with (fail)
      refine bodyPost_ret (v := .tuple #[.agg cz, .bool false]) (results_agg_tmp (p := 6) (u := 7) rfl _ _ b6 23 _ (0, 0) _ rfl k5 Tryd.underlying23 rfl hsz) rfl ⟨rfl, ?_⟩
      exact hV6.trans' hX5 (fun i hm hi => by simp at hm; omega)
    · have c3 : n > 2147483647 := by omega
      have d1 : ¬ ((str.size : Int) > 32) := by omega
      clear hbad c1
      go_enter Tryd.func10, Tryd.ntmps10
      go_wp2_with (with_reducible refine arm_box (by with_unfolding_all exact rfl) ?_)
      intro b3 w3 hb3 k3 hU3 hz3
      go_wp2_with (with_reducible refine arm_alloc (HZZ.out _) ?_)
      intro b6 w6 hb6 k6 hU6 hz6
      change w6.heap[b6]? = some (.cells cz 23 (0, 0)) at k6
      have hV6 := hU3.trans hU6
      have hl6 : w.heap.size ≤ b6 := by have := hU3.size; omega
      clear hb3 hz3 hb6 hz6 k3 hU3 hU6
      go_wp2_with (first | (with_reducible refine arm_build0 hb ?_) | (with_reducible refine arm_store (by with_unfolding_all exact rfl) (by with_unfolding_all exact rfl) k6 hsz rfl hone ?_))
      intro w5 k5 hX5 hz5
      go_wp2_with (fail)
      refine bodyPost_ret (v := .tuple #[.agg cz, .bool false]) (results_agg_tmp (p := 6) (u := 7) rfl _ _ b6 23 _ (0, 0) _ rfl k5 Tryd.underlying23 rfl hsz) rfl ⟨rfl, ?_⟩
      exact hV6.trans' hX5 (fun i hm hi => by simp at hm; omega)
set_option maxRecDepth 100000 in
set_option maxHeartbeats 6400000 in
theorem derive_ (w : World) (key : List (BitVec 8)) (str : ByteArray) (n : Nat) (hkl : key.length = 32) (hs : str.size ≤ 32) (hn : n ≤ 2147483647) (hg : Gl256 w) (hf : GlFirst256 w) :
    Calls Tryd.prog 10 #[.agg (key.map U8).toArray, .string str, .int .i64 n] w fun e w' => e = .returned (.tuple #[.agg ((expOf key (derInfo str n) 32).map U8).toArray, .bool true]) ∧ Upd [] w w' := by
  obtain ⟨X, hX⟩ : ∃ X, expOf key (derInfo str n) 32 = X := ⟨_, rfl⟩
  have hXl : X.length = 32 := by rw [← hX]; exact expOf_length _ _ _
  have HEX : Hid (∀ W v, Upd [] w W → RdB W v (bytesOfS str ++ ([0] ++ tell64 (BitVec.ofNat 64 n))) → Calls Tryd.prog 8 #[.agg (key.map U8).toArray, v, .int .i64 32] W fun e w' => ∃ v, e = .returned (.tuple #[v, .bool true]) ∧ NewB W w' v X ∧ Upd [] W w') := fun W v hW hv => by
    have := expand_ W v key (derInfo str n) 32 hkl hv (by rw [derInfo_length]; omega) (by omega) (hg.upd hW (by simp)) (hf.upd hW (by simp))
    rwa [hX] at this
  have hsK := szrow256 hkl
  have hsX := szrow256 hXl
  have hoX := sameZ256 hXl
  have haX : ((X.map U8).toArray).all (·.oneCell') = true := by simp
  have hsp := splice_all X hXl
  rw [hX]
  obtain ⟨ck, hck⟩ : ∃ c, (key.map U8).toArray = c := ⟨_, rfl⟩
  rw [hck] at HEX hsK ⊢
  obtain ⟨lX, hlX⟩ : ∃ l, X.map U8 = l := ⟨_, rfl⟩
  rw [hlX] at hsX hoX haX hsp ⊢
  obtain ⟨Z, hZ⟩ : ∃ Z : List Value, (List.replicate 32 (0 : BitVec 8)).map U8 = Z := ⟨_, rfl⟩
  rw [hZ] at hsp
  have HZR : Hid (zrow8 32 = Z.toArray) := by rw [← hZ]; exact zrow_h
  have HZL := Lib.hid (show Z.length = 32 by rw [← hZ]; simp)
  have HSP := Lib.hid hsp
  have HXL := Lib.hid hXl
  clear hZ
  have HSL := Lib.hid (show str.size ≤ maxLen by simp [maxLen]; omega)
  have HBL : Hid ((bytesOfS str).length = str.size) := bytesOfS_length str
  have d1 : ¬ ((str.size : Int) > 32) := by omega
  have d3 : ¬ ((n : Int) > 2147483647) := by omega
  clear hg hf hX hXl hck hlX hsp hkl
  go_enter Tryd.func10, Tryd.ntmps10
  go_wp2_with (with_reducible refine arm_box (by with_unfolding_all exact rfl) ?_)
  intro b3 w3 hb3 k3 hU3 hz3
  change w3.heap[b3]? = some (.cells ck 23 (0, 0)) at k3
  go_wp2_with (with_reducible refine arm_alloc (zero256 _) ?_)
  intro b6 w6 hb6 k6 hU6 hz6
  change w6.heap[b6]? = some (.cells (zrow8 32) 23 (0, 0)) at k6
  have k36 := hU6.heap k3 (by simp)
  have hV6 := hU3.trans hU6
  have hl6 : w.heap.size ≤ b6 := by have := hU3.size; omega
  clear hb3 hz3 hb6 hz6 k3 hU3 hU6
  go_wp2_with (with_reducible refine arm_strbytes Tryd.underlying9 Tryd.underlying24 Tryd.underlying5 (by with_unfolding_all exact rfl) HSL.out ?_)
  intro v7 w7 hr7 hU7
  have k37 := hU7.heap k36 (by simp)
  have k67 := hU7.heap k6 (by simp)
  have hV7 := hV6.trans hU7
  clear k36 k6 hV6 hU7
  go_wp2_with (with_reducible refine bs1 (y := 0) (by with_unfolding_all exact rfl) ?_)
  intro g8 w8 hg8 hr8 hU8
  have k38 := hU8.heap k37 (by simp)
  have k68 := hU8.heap k67 (by simp)
  have hr78 := hr7.upd0 hU8
  have hV8 := hV7.trans hU8
  clear hg8 k37 k67 hr7 hV7 hU8
  go_wp2_with (fail)
  with_reducible refine (storeBE64 _ (BitVec.ofNat 64 n)).mono ?_
  rintro e w9 ⟨v9, rfl, hO9, hU9⟩
  have k39 := hU9.heap k38 (by simp)
  have k69 := hU9.heap k68 (by simp)
  have hr79 := hr78.upd0 hU9
  have hr89 := hr8.upd0 hU9
  have hr99 := hO9.rd
  have hV9 := hV8.trans hU9
  have hc7 := hr79.cells
  have hc9 := hr99.cells
  clear k38 k68 hr78 hr8 hO9 hV8 hU9
  go_wp2_with (with_reducible refine bs3 (by with_unfolding_all exact rfl) (by with_unfolding_all exact rfl) (by with_unfolding_all exact rfl) hc7 rfl hc9 ?_)
  intro g10 w10 hg10 k10 hU10
  have k3a := hU10.heap k39 (by simp)
  have k6a := hU10.heap k69 (by simp)
  have hV10 := hV9.trans hU10
  have hJ := join3 w10 g10 v7 (.slice (some ⟨g8, 0, none⟩) 1 1) v9 (bytesOfS str) [0] (tell64 (BitVec.ofNat 64 n)) _ _ k10 (hr79.upd0 hU10) (hr89.upd0 hU10) (hr99.upd0 hU10) (by rw [HBL.out, tell64_length]; simp; omega)
  clear hg10 k39 k69 hr79 hr89 hr99 hc7 hc9 hV9 hU10 k10
  go_wp2_with (fail)
  with_reducible refine hJ.mono ?_
  rintro e w11 ⟨v11, rfl, hO11, hU11⟩
  have k3b := hU11.heap k3a (by simp)
  have k6b := hU11.heap k6a (by simp)
  have hV11 := hV10.trans hU11
  have hr11 := hO11.rd
  clear hJ k3a k6a hV10 hU11 hO11
  go_wp2_with (with_reducible refine arm_load (by with_unfolding_all exact rfl) k3b Tryd.underlying23 (by with_unfolding_all exact rfl) hsK ?_)
  with_reducible refine (HEX.out _ _ hV11 hr11).mono ?_
  rintro e w12 ⟨v12, rfl, hN12, hU12⟩
  have k6c := hU12.heap k6b (by simp)
  have hV12 := hV11.trans hU12
  have hr12 := hN12.1
  clear hr11 k3b k6b hV11 hU12 hN12
  go_wp2_with (with_reducible refine arm_alloc (zero256 _) ?_)
  intro b13 w13 hb13 k13 hU13 hz13
  change w13.heap[b13]? = some (.cells (zrow8 32) 23 (0, 0)) at k13
  rw [HZR.out] at k13
  have k6d := hU13.heap k6c (by simp)
  have hV13 := hV12.trans hU13
  have hr13 := hr12.upd0 hU13
  have hlt13 := lt_of_heap k6c
  have hl13 : w.heap.size ≤ b13 := by have := hV12.size; omega
  have hne : b6 ≠ b13 := by omega
  clear hb13 hz13 k6c hU13 hV12 hr12 hlt13
  go_wp2_with (refine copy_bytes rfl _ _ rfl b13 0 32 32 rfl v12 X rfl hr13 Z 23 k13 32 (by rw [HXL.out]; rfl) (by rw [HZL.out]; omega) ?_)
  intro w14 hk14 hU14
  have k14 : w14.heap[b13]? = some (.cells lX.toArray 23 (0, 0)) := by have := hk14.out; rwa [← List.map_take, HSP.out] at this
  have k6e := hU14.heap k6d (by simpa using hne)
  have hV14 := hV13.trans' hU14 (fun i hm hi => by simp at hm; omega)
  clear hk14 k13 k6d hU14 hV13 hr13
  go_wp2_with (first
    | (with_reducible refine arm_load (by with_unfolding_all exact rfl) k14 Tryd.underlying23 (by with_unfolding_all exact rfl) hsX ?_)
    | (with_reducible refine arm_store (by with_unfolding_all exact rfl) (by with_unfolding_all exact rfl) k6e hsX hoX haX ?_))
  intro w15 k15 hX15 hz15
  go_wp2_with (fail)
  refine bodyPost_ret (v := .tuple #[.agg lX.toArray, .bool true]) (results_agg_tmp (p := 6) (u := 7) rfl _ _ b6 23 _ (0, 0) _ rfl k15 Tryd.underlying23 rfl hsX) rfl ⟨rfl, ?_⟩
  exact hV14.trans' hX15 (fun i hm hi => by simp at hm; omega)
end Go.Proofs.YtgpieipflidkpaaDoor
