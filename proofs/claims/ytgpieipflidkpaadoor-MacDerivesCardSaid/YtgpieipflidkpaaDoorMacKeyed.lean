/-
  The keyed hash: the closure that keyed makes.
-/
import Derived.Test.YtgpieipflidkpaaDoorMacFrame
import Derived.Test.YtgpieipflidkpaaDoorHoist
import Derived.Test.YtgpieipflidkpaaDoorDigSum256
import Derived.Test.YtgpieipflidkpaaDoorSum512
import Derived.Test.YtgpieipflidkpaaDoorGl256
import Derived.Outline
import Derived.Deep.DeepCutAuto
namespace Go.Proofs.YtgpieipflidkpaaDoor
open Go Go.RowKit Go.Proofs
theorem zero256 (w : World) : (zeroValue 23).run Tryd.prog w = .ok (.agg (zrow8 32)) w := by kernel_rfl
theorem zero512 (w : World) : (zeroValue 36).run Tryd.prog w = .ok (.agg (zrow8 64)) w := by kernel_rfl
theorem size_slice : (Tryd.prog.info? 24).map (·.size) = some 1 := by kernel_rfl
theorem RdB.cells {w : World} {v : Value} {l : List (BitVec 8)} (h : RdB w v l) : v.cells = #[v] := by
  obtain ⟨A, c, rfl, _⟩ := h; rfl
theorem info_slice : ∃ i, Tryd.prog.info? 24 = some i ∧ i.size = 1 ∧ i.zero = some (.slice none 0 0) := by
  have h : (Tryd.prog.info? 24).map (fun i => (i.size, i.zero)) = some (1, some (.slice none 0 0)) := by kernel_rfl
  cases hq : Tryd.prog.info? 24 with
  | none => rw [hq] at h; cases h
  | some i =>
    rw [hq] at h
    simp only [Option.map_some, Option.some.injEq, Prod.mk.injEq] at h
    exact ⟨i, rfl, h.1, h.2⟩
theorem bs2 {ops : Array Oper} {rest : List Oper} {a : Act} {w : World} {Q : Exit → Act → World → Prop} {dst : Option Tmp} {type : TypeId} {pos : String} {after : Array Edge} {x1 x2 : Operand} {v1 v2 : Value} (h1 : a.eval x1 = v1) (h2 : a.eval x2 = v2) (c1 : v1.cells = #[v1]) (c2 : v2.cells = #[v2])
    (h : ∀ g w', w.heap.size = g → w'.heap[g]? = some (.cells #[v1, v2] 24 (0, 0)) → Upd [] w w' → wpList Tryd.prog ops Q rest (a.put dst (.slice (some ⟨g, 0, none⟩) 2 2)) w') :
    wpList Tryd.prog ops Q (⟨dst, .buildSlice 44 2 #[(0, x1), (1, x2)], type, pos, after, none⟩ :: rest) a w := by
  obtain ⟨i, hi, hs, hz⟩ := info_slice
  exact arm_bs2 Tryd.underlying44 hi hs hz rfl h1 h2 c1 c2 h
theorem bs3 {ops : Array Oper} {rest : List Oper} {a : Act} {w : World} {Q : Exit → Act → World → Prop} {dst : Option Tmp} {type : TypeId} {pos : String} {after : Array Edge} {x1 x2 x3 : Operand} {v1 v2 v3 : Value} (h1 : a.eval x1 = v1) (h2 : a.eval x2 = v2) (h3 : a.eval x3 = v3) (c1 : v1.cells = #[v1]) (c2 : v2.cells = #[v2]) (c3 : v3.cells = #[v3])
    (h : ∀ g w', w.heap.size = g → w'.heap[g]? = some (.cells #[v1, v2, v3] 24 (0, 0)) → Upd [] w w' → wpList Tryd.prog ops Q rest (a.put dst (.slice (some ⟨g, 0, none⟩) 3 3)) w') :
    wpList Tryd.prog ops Q (⟨dst, .buildSlice 44 3 #[(0, x1), (1, x2), (2, x3)], type, pos, after, none⟩ :: rest) a w := by
  obtain ⟨i, hi, hs, hz⟩ := info_slice
  exact arm_bs3 Tryd.underlying44 hi hs hz rfl h1 h2 h3 c1 c2 c3 h
theorem join2 (w : World) (G : Nat) (v1 v2 : Value) (l1 l2 : List (BitVec 8)) (T : TypeId) (fr : Nat × Nat) (hG : w.heap[G]? = some (.cells #[v1, v2] T fr)) (h1 : RdB w v1 l1) (h2 : RdB w v2 l2) (hlen : l1.length + l2.length ≤ 1099511627776) :
    Calls Tryd.prog 20 #[.slice (some ⟨G, 0, none⟩) 2 2] w fun e w' => ∃ v, e = .returned v ∧ OwnB w' w.heap.size v (l1 ++ l2) ∧ Upd [] w w' := by
  have := join_ w G [(v1, l1), (v2, l2)] 2 rfl T fr hG (fun r hr => by simp at hr; rcases hr with rfl | rfl <;> assumption) (by simp [cat8]; omega) (by omega)
  simpa [cat8] using this
theorem join3 (w : World) (G : Nat) (v1 v2 v3 : Value) (l1 l2 l3 : List (BitVec 8)) (T : TypeId) (fr : Nat × Nat) (hG : w.heap[G]? = some (.cells #[v1, v2, v3] T fr)) (h1 : RdB w v1 l1) (h2 : RdB w v2 l2) (h3 : RdB w v3 l3) (hlen : l1.length + l2.length + l3.length ≤ 1099511627776) :
    Calls Tryd.prog 20 #[.slice (some ⟨G, 0, none⟩) 3 3] w fun e w' => ∃ v, e = .returned v ∧ OwnB w' w.heap.size v (l1 ++ (l2 ++ l3)) ∧ Upd [] w w' := by
  have := join_ w G [(v1, l1), (v2, l2), (v3, l3)] 3 rfl T fr hG (fun r hr => by simp at hr; rcases hr with rfl | rfl | rfl <;> assumption) (by simp [cat8]; omega) (by omega)
  simpa [cat8] using this
/-- a slice that can be read and lies in new memory -/
def NewB (w w' : World) (v : Value) (l : List (BitVec 8)) : Prop := RdB w' v l ∧ ∀ k, v.ownBlock = some k → w.heap.size ≤ k
def hmac256 (key msg : List (BitVec 8)) : List (BitVec 8) := sha256 (frameOf (if key.length ≤ 64 then key else sha256 key) 64 0x5c ++ sha256 (frameOf (if key.length ≤ 64 then key else sha256 key) 64 0x36 ++ msg))
def hmac512 (key msg : List (BitVec 8)) : List (BitVec 8) := sha512 (frameOf (if key.length ≤ 128 then key else sha512 key) 128 0x5c ++ sha512 (frameOf (if key.length ≤ 128 then key else sha512 key) 128 0x36 ++ msg))
theorem hmac256_length (key msg : List (BitVec 8)) : (hmac256 key msg).length = 32 := sha256_length _
theorem hmac512_length (key msg : List (BitVec 8)) : (hmac512 key msg).length = 64 := sha512_length _
theorem rd_new256 {w : World} {b : Nat} {m : List (BitVec 8)} {T : TypeId} {fr : Nat × Nat} (hb : w.heap[b]? = some (.cells (m.map U8).toArray T fr)) (hm : m.length = 32) : RdB w (.slice (some ⟨b, 0, none⟩) 32 32) m := by
  have h := RdB.mk (c := 32) (l := m) (by omega) (by simp [maxLen]) (Bytes.of_row hb m 0 (fun i hi => by simp [hi]))
  rwa [hm] at h
theorem list256 (w : World) (m : List (BitVec 8)) (hm : m.length = 32) : Calls Tryd.prog 22 #[.agg (m.map U8).toArray] w fun e w' => ∃ v, e = .returned v ∧ RdB w' v m ∧ Upd [] w w' := by
  go_enter Tryd.func22, Tryd.ntmps22
  obtain ⟨cs, hcs⟩ : ∃ cs, (m.map U8).toArray = cs := ⟨_, rfl⟩
  rw [hcs]
  have HCS := Lib.hid hcs
  clear hcs
  go_wp2
  go_ret
  exact ⟨_, rfl, rd_new256 (T := 23) (fr := (0, 0)) (by rw [HCS.out]; exact hget_new rfl) hm, (Upd.refl _ w).alloc _⟩
theorem list256' (w : World) (m : List (BitVec 8)) (hm : m.length = 32) : Calls Tryd.prog 22 #[.agg (m.map U8).toArray] w fun e w' => ∃ v, e = .returned v ∧ NewB w w' v m ∧ Upd [] w w' := by
  go_enter Tryd.func22, Tryd.ntmps22
  obtain ⟨cs, hcs⟩ : ∃ cs, (m.map U8).toArray = cs := ⟨_, rfl⟩
  rw [hcs]
  have HCS := Lib.hid hcs
  clear hcs
  go_wp2
  go_ret
  exact ⟨_, rfl, ⟨rd_new256 (T := 23) (fr := (0, 0)) (by rw [HCS.out]; exact hget_new rfl) hm, fun k hk => by simp [Value.ownBlock] at hk; omega⟩, (Upd.refl _ w).alloc _⟩
theorem szrow256 {l : List (BitVec 8)} (h : l.length = 32) : (Tryd.prog.info? 23).map (·.size) = some ((l.map U8).toArray).size := by simp only [List.size_toArray, List.length_map, h]; kernel_rfl
theorem sameZ256 {a : List (BitVec 8)} (h : a.length = 32) : (zrow8 32).size = ((a.map U8).toArray).size := by simp only [List.size_toArray, List.length_map, h, zrow8_size]
theorem rd_new512 {w : World} {b : Nat} {m : List (BitVec 8)} {T : TypeId} {fr : Nat × Nat} (hb : w.heap[b]? = some (.cells (m.map U8).toArray T fr)) (hm : m.length = 64) : RdB w (.slice (some ⟨b, 0, none⟩) 64 64) m := by
  have h := RdB.mk (c := 64) (l := m) (by omega) (by simp [maxLen]) (Bytes.of_row hb m 0 (fun i hi => by simp [hi]))
  rwa [hm] at h
theorem list512 (w : World) (m : List (BitVec 8)) (hm : m.length = 64) : Calls Tryd.prog 25 #[.agg (m.map U8).toArray] w fun e w' => ∃ v, e = .returned v ∧ RdB w' v m ∧ Upd [] w w' := by
  go_enter Tryd.func25, Tryd.ntmps25
  obtain ⟨cs, hcs⟩ : ∃ cs, (m.map U8).toArray = cs := ⟨_, rfl⟩
  rw [hcs]
  have HCS := Lib.hid hcs
  clear hcs
  go_wp2
  go_ret
  exact ⟨_, rfl, rd_new512 (T := 36) (fr := (0, 0)) (by rw [HCS.out]; exact hget_new rfl) hm, (Upd.refl _ w).alloc _⟩
theorem list512' (w : World) (m : List (BitVec 8)) (hm : m.length = 64) : Calls Tryd.prog 25 #[.agg (m.map U8).toArray] w fun e w' => ∃ v, e = .returned v ∧ NewB w w' v m ∧ Upd [] w w' := by
  go_enter Tryd.func25, Tryd.ntmps25
  obtain ⟨cs, hcs⟩ : ∃ cs, (m.map U8).toArray = cs := ⟨_, rfl⟩
  rw [hcs]
  have HCS := Lib.hid hcs
  clear hcs
  go_wp2
  go_ret
  exact ⟨_, rfl, ⟨rd_new512 (T := 36) (fr := (0, 0)) (by rw [HCS.out]; exact hget_new rfl) hm, fun k hk => by simp [Value.ownBlock] at hk; omega⟩, (Upd.refl _ w).alloc _⟩
theorem szrow512 {l : List (BitVec 8)} (h : l.length = 64) : (Tryd.prog.info? 36).map (·.size) = some ((l.map U8).toArray).size := by simp only [List.size_toArray, List.length_map, h]; kernel_rfl
theorem sameZ512 {a : List (BitVec 8)} (h : a.length = 64) : (zrow8 64).size = ((a.map U8).toArray).size := by simp only [List.size_toArray, List.length_map, h, zrow8_size]
set_option maxRecDepth 100000 in
set_option maxHeartbeats 6400000 in
theorem keyed256_short (w : World) (kv mv : Value) (key msg : List (BitVec 8)) (b2 b3 b4 : Nat) (h2 : w.cell? ⟨b2, 0, none⟩ = some (.int .i64 64)) (h3 : w.cell? ⟨b3, 0, none⟩ = some (.func (.func 22) #[] #[])) (h4 : w.cell? ⟨b4, 0, none⟩ = some (.func (.func 13) #[] #[]))
    (hk : RdB w kv key) (hm : RdB w mv msg) (hml : msg.length ≤ 100000) (hle : key.length ≤ 64) (hg : Gl256 w) (hf : GlFirst256 w) :
    Calls Tryd.prog 42 #[kv, mv, .pointer (some ⟨b2, 0, none⟩), .pointer (some ⟨b3, 0, none⟩), .pointer (some ⟨b4, 0, none⟩)] w fun e w' => e = .returned (.agg ((hmac256 key msg).map U8).toArray) ∧ Upd [] w w' := by
  obtain ⟨A, c, e, hc1, hc2⟩ := hk.isSlice
  have HM := Lib.hid hm
  have HG := Lib.hid hg
  have HFI := Lib.hid hf
  have l3 := World.block_lt_of_cell? w _ h3
  have l4 := World.block_lt_of_cell? w _ h4
  have hkeq : (if key.length ≤ 64 then key else sha256 key) = key := if_pos hle
  obtain ⟨n, hn⟩ : ∃ n, key.length = n := ⟨_, rfl⟩
  rw [hn] at e
  obtain ⟨kv2, hkv2⟩ : ∃ v, Value.slice A n c = v := ⟨_, rfl⟩
  rw [e] at hk ⊢
  have hn' : (n : Int) ≤ 64 := by omega
  have HK := Lib.hid hk
  have HKV := Lib.hid hkv2
  clear hm hg hf e hk hkv2
  go_enter Tryd.func42, Tryd.ntmps42
  go_wp2_with (with_reducible refine arm_box (by with_unfolding_all exact rfl) ?_)
  intro b5 w1 hb5 k5 hU1 hz1
  change w1.heap[b5]? = some (.cells #[.slice A n c] 24 (0, 0)) at k5
  go_wp2_with (with_reducible refine arm_alloc (zero256 _) ?_)
  intro b7 w2 hb7 k7 hU2 hz2
  change w2.heap[b7]? = some (.cells (zrow8 32) 23 (0, 0)) at k7
  have q5 : w2.cell? ⟨b5, 0, none⟩ = some (.slice A n c) := by rw [cell_of_row _ _ _ _ _ _ (hU2.heap k5 (by simp))]; rfl
  have q2 := hU2.cell (hU1.cell h2 (by simp)) (by simp)
  have q3 := hU2.cell (hU1.cell h3 (by simp)) (by simp)
  have q4 := hU2.cell (hU1.cell h4 (by simp)) (by simp)
  have hV2 := hU1.trans hU2
  have hw1 := hU1.size
  have n3 : b3 ≠ b7 := by change b3 < _ at l3; omega
  have n4 : b4 ≠ b7 := by change b4 < _ at l4; omega
  have hw2 : w.heap.size ≤ b7 := by omega
  have HKK : Hid (RdB w2 (.slice A n c) key) := HK.out.upd0 hV2
  clear hb5 hz1 hb7 hz2 hU1 hU2 k5 h2 h3 h4 hw1 l3 l4
  have hkk : key.length ≤ 64 := hle
  go_upto_region 4 with (fail)
  obtain ⟨H1, hH1⟩ : ∃ H, sha256 (frameOf key 64 0x36 ++ msg) = H := ⟨_, rfl⟩
  obtain ⟨H2, hH2⟩ : ∃ H, sha256 (frameOf key 64 0x5c ++ H1) = H := ⟨_, rfl⟩
  have hl1 : H1.length = 32 := by rw [← hH1]; exact sha256_length _
  have hl2 : H2.length = 32 := by rw [← hH2]; exact sha256_length _
  have hfl1 : (frameOf key 64 0x36).length = 64 := frameOf_length _ _ _ hkk
  have hfl2 : (frameOf key 64 0x5c).length = 64 := frameOf_length _ _ _ hkk
  have HF1 : Hid (∀ W, Upd [] w2 W → Calls Tryd.prog 43 #[.int .u8 54, .pointer (some ⟨b2, 0, none⟩), .pointer (some ⟨b5, 0, none⟩)] W fun e w' => ∃ v, e = .returned v ∧ OwnB w' W.heap.size v (frameOf key 64 0x36) ∧ Upd [] W w') := fun W hW =>
    frame256 W (.slice A n c) key b2 b5 64 0x36 (hW.cell q2 (by simp)) (hW.cell q5 (by simp)) (HKK.out.upd0 hW) hkk (by omega) (by omega)
  have HF2 : Hid (∀ W, Upd [] w2 W → Calls Tryd.prog 43 #[.int .u8 92, .pointer (some ⟨b2, 0, none⟩), .pointer (some ⟨b5, 0, none⟩)] W fun e w' => ∃ v, e = .returned v ∧ OwnB w' W.heap.size v (frameOf key 64 0x5c) ∧ Upd [] W w') := fun W hW =>
    frame256 W (.slice A n c) key b2 b5 64 0x5c (hW.cell q2 (by simp)) (hW.cell q5 (by simp)) (HKK.out.upd0 hW) hkk (by omega) (by omega)
  have HS1 : Hid (∀ W v, Upd [] w2 W → RdB W v (frameOf key 64 0x36 ++ msg) → Calls Tryd.prog 13 #[v] W fun e w' => e = .returned (.agg (H1.map U8).toArray) ∧ Upd [] W w') := fun W v hW hr => by
    have := sum256 W v _ hr (by rw [List.length_append, hfl1]; omega) (HG.out.upd (hV2.trans hW) (by simp)) (HFI.out.upd (hV2.trans hW) (by simp))
    rwa [hH1] at this
  have HS2 : Hid (∀ W v, Upd [] w2 W → RdB W v (frameOf key 64 0x5c ++ H1) → Calls Tryd.prog 13 #[v] W fun e w' => e = .returned (.agg (H2.map U8).toArray) ∧ Upd [] W w') := fun W v hW hr => by
    have := sum256 W v _ hr (by rw [List.length_append, hfl2, hl1]; omega) (HG.out.upd (hV2.trans hW) (by simp)) (HFI.out.upd (hV2.trans hW) (by simp))
    rwa [hH2] at this
  have HJ1 : Hid (∀ W G v1, Upd [] w2 W → W.heap[G]? = some (.cells #[v1, mv] 24 (0, 0)) → RdB W v1 (frameOf key 64 0x36) → Calls Tryd.prog 20 #[.slice (some ⟨G, 0, none⟩) 2 2] W fun e w' => ∃ v, e = .returned v ∧ OwnB w' W.heap.size v (frameOf key 64 0x36 ++ msg) ∧ Upd [] W w') := fun W G v1 hW hk hr =>
    join2 W G v1 mv _ _ _ _ hk hr (HM.out.upd0 (hV2.trans hW)) (by rw [hfl1]; omega)
  have HJ2 : Hid (∀ W G v1 v2, W.heap[G]? = some (.cells #[v1, v2] 24 (0, 0)) → RdB W v1 (frameOf key 64 0x5c) → RdB W v2 H1 → Calls Tryd.prog 20 #[.slice (some ⟨G, 0, none⟩) 2 2] W fun e w' => ∃ v, e = .returned v ∧ OwnB w' W.heap.size v (frameOf key 64 0x5c ++ H1) ∧ Upd [] W w') := fun W G v1 v2 hk h1 h2 =>
    join2 W G v1 v2 _ _ _ _ hk h1 h2 (by rw [hfl2, hl1]; omega)
  have HL1 : Hid (∀ W, Calls Tryd.prog 22 #[.agg (H1.map U8).toArray] W fun e w' => ∃ v, e = .returned v ∧ RdB w' v H1 ∧ Upd [] W w') := fun W => list256 W H1 hl1
  have hs1 := szrow256 hl1
  have ho1 := sameZ256 hl1
  have ha1 : ((H1.map U8).toArray).all (·.oneCell') = true := by simp
  have hs2 := szrow256 hl2
  have ho2 := sameZ256 hl2
  have ha2 : ((H2.map U8).toArray).all (·.oneCell') = true := by simp
  have HEQ : Hid (hmac256 key msg = H2) := by show hmac256 key msg = H2; rw [hmac256, hkeq, hH1, hH2]
  obtain ⟨c1, hc1⟩ : ∃ c, (H1.map U8).toArray = c := ⟨_, rfl⟩
  obtain ⟨c2, hc2⟩ : ∃ c, (H2.map U8).toArray = c := ⟨_, rfl⟩
  have HC2 := Lib.hid hc2
  rw [hc1] at HS1 HL1 hs1 ho1 ha1
  rw [hc2] at HS2 hs2 ho2 ha2
  clear hH1 hH2 hl1 hl2 hfl1 hfl2 hkk hkeq hc1 hc2
  go_cut [9] (fun s9 wx => ∃ b9, s9 = .pointer (some ⟨b9, 0, none⟩) ∧ wx.heap[b9]? = some (.cells c1 23 (0, 0)) ∧ Upd [] w2 wx ∧ b9 ≠ b7)
  case first =>
    refine wp_region_orders [0, 1, 3] (.step 2 (.step 4 (.step 5 (.step 6 (.step 7 (.step 8 .none .none) .none) (.step 7 (.step 6 (.step 8 .none .none) .none) .none)) (.step 7 (.step 5 (.step 6 (.step 8 .none .none) .none) .none) .none)) (.step 7 (.step 4 (.step 5 (.step 6 (.step 8 .none .none) .none) .none) .none) .none)) (.step 7 (.step 2 (.step 4 (.step 5 (.step 6 (.step 8 .none .none) .none) .none) .none) .none) .none)) (Upd [] w2) (by kernel_rfl) (by kernel_rfl) ((Upd.refl _ _).drew) ?_
    refine takeO_cons _ _ rfl rfl (yields_cell rfl (fun w hS => hS.cell q4 (by simp)) Tryd.underlying39 rfl) ?_
    refine takeO_cons _ _ rfl rfl (yields_move rfl) ?_
    refine takeO_cons _ _ rfl rfl (yields_move rfl) ?_
    refine takeO_nil (by simp [Ord.first]) ?_
    refine ordP_step _ (by simp only [List.getElem?_toArray, List.getElem?_cons_succ, List.getElem?_cons_zero]; rfl) ?_ ?_
    · go_wp2_with fail
      with_reducible refine (HF1.out _ (Upd.refl [] w2).drew).mono ?_
      rintro e wx7 ⟨vx7, rfl, hNx7, hUx7⟩
      have hTx7 := (Upd.refl [] w2).drew.trans hUx7
      have hMx7 := hNx7.rd
      go_wp2_with fail
      refine ord_more (by simp [Ord.first]) (hTx7) ?_
      refine ordP_step _ (by simp only [List.getElem?_toArray, List.getElem?_cons_succ, List.getElem?_cons_zero]; rfl) ?_ ?_
      · with_reducible refine bs2 (by with_unfolding_all exact rfl) (by with_unfolding_all exact rfl) (hMx7).cells HM.out.cells ?_
        intro gx13 wx13 hbx13 hNx13 hUx13
        clear hbx13
        have hTx13 := hTx7.trans hUx13
        have hx13_fr := hMx7.upd0 hUx13
        go_wp2_with fail
        refine ord_more (by simp [Ord.first]) (hTx13) ?_
        refine ordP_step _ (by simp only [List.getElem?_toArray, List.getElem?_cons_succ, List.getElem?_cons_zero]; rfl) ?_ ?_
        · go_wp2_with fail
          with_reducible refine (HJ1.out _ _ _ hTx13 hNx13 hx13_fr).mono ?_
          rintro e wx18 ⟨vx18, rfl, hNx18, hUx18⟩
          have hTx18 := hTx13.trans hUx18
          have hx18_fr := hx13_fr.upd0 hUx18
          have hx18_bs := hUx18.heap hNx13 (by simp)
          have hMx18 := hNx18.rd
          go_wp2_with fail
          refine ord_more (by simp [Ord.first]) (hTx18) ?_
          refine ordP_step _ (by simp only [List.getElem?_toArray, List.getElem?_cons_succ, List.getElem?_cons_zero]; rfl) ?_ ?_
          · go_wp2_with fail
            with_reducible refine (HS1.out _ _ hTx18 hMx18).mono ?_
            rintro e wx22 ⟨rfl, hUx22⟩
            have hTx22 := hTx18.trans hUx22
            have hx22_fr := hx18_fr.upd0 hUx22
            have hx22_bs := hUx22.heap hx18_bs (by simp)
            have hx22_jn := hMx18.upd0 hUx22
            go_wp2_with fail
            refine ord_more (by simp [Ord.first]) (hTx22) ?_
            refine ordP_step _ (by simp only [List.getElem?_toArray, List.getElem?_cons_succ, List.getElem?_cons_zero]; rfl) ?_ ordP_none
            with_reducible refine arm_alloc (zero256 _) ?_
            intro gx23 wx23 hbx23 hNx23 hUx23 hzx23
            change wx23.heap[gx23]? = some (.cells (zrow8 32) 23 (0, 0)) at hNx23
            have hlx23 := (hTx22).size
            rw [hbx23] at hlx23
            clear hbx23 hzx23
            have hTx23 := hTx22.trans hUx23
            have hx23_fr := hx22_fr.upd0 hUx23
            have hx23_bs := hUx23.heap hx22_bs (by simp)
            have hx23_jn := hx22_jn.upd0 hUx23
            go_wp2_with fail
            refine ord_more (by simp [Ord.first]) (hTx23) ?_
            refine ordP_step _ (by simp only [List.getElem?_toArray, List.getElem?_cons_succ, List.getElem?_cons_zero]; rfl) ?_ ordP_none
            with_reducible refine arm_store (by with_unfolding_all exact rfl) (by with_unfolding_all exact rfl) hNx23 hs1 ho1 ha1 ?_
            intro wx24 hNx24 hXx24 hzx24
            have hTx24 := (hTx23).trans' hXx24 (fun i hm hi => by have := hlx23; simp at hm; omega)
            go_wp2_with fail
            refine ord_last (hTx24) ?_
            show Exit.then _ _ Exit.normal _ _
            go_wp2_with fail
            go_meet
            exact ⟨_, rfl, hNx24, hTx24, by have h1 := lt_of_heap k7; have h2 : w2.heap.size ≤ _ := hlx23; omega⟩
          · refine ordP_step _ (by simp only [List.getElem?_toArray, List.getElem?_cons_succ, List.getElem?_cons_zero]; rfl) ?_ ordP_none
            with_reducible refine arm_alloc (zero256 _) ?_
            intro gx19 wx19 hbx19 hNx19 hUx19 hzx19
            change wx19.heap[gx19]? = some (.cells (zrow8 32) 23 (0, 0)) at hNx19
            have hlx19 := (hTx18).size
            rw [hbx19] at hlx19
            clear hbx19 hzx19
            have hTx19 := hTx18.trans hUx19
            have hx19_fr := hx18_fr.upd0 hUx19
            have hx19_bs := hUx19.heap hx18_bs (by simp)
            have hx19_jn := hMx18.upd0 hUx19
            go_wp2_with fail
            refine ord_more (by simp [Ord.first]) (hTx19) ?_
            refine ordP_step _ (by simp only [List.getElem?_toArray, List.getElem?_cons_succ, List.getElem?_cons_zero]; rfl) ?_ ordP_none
            go_wp2_with fail
            with_reducible refine (HS1.out _ _ hTx19 hx19_jn).mono ?_
            rintro e wx20 ⟨rfl, hUx20⟩
            have hTx20 := hTx19.trans hUx20
            have hx20_fr := hx19_fr.upd0 hUx20
            have hx20_bs := hUx20.heap hx19_bs (by simp)
            have hx20_jn := hx19_jn.upd0 hUx20
            have hx20_b9 := hUx20.heap hNx19 (by simp)
            go_wp2_with fail
            refine ord_more (by simp [Ord.first]) (hTx20) ?_
            refine ordP_step _ (by simp only [List.getElem?_toArray, List.getElem?_cons_succ, List.getElem?_cons_zero]; rfl) ?_ ordP_none
            with_reducible refine arm_store (by with_unfolding_all exact rfl) (by with_unfolding_all exact rfl) hx20_b9 hs1 ho1 ha1 ?_
            intro wx21 hNx21 hXx21 hzx21
            have hTx21 := (hTx20).trans' hXx21 (fun i hm hi => by have := hlx19; simp at hm; omega)
            go_wp2_with fail
            refine ord_last (hTx21) ?_
            show Exit.then _ _ Exit.normal _ _
            go_wp2_with fail
            go_meet
            exact ⟨_, rfl, hNx21, hTx21, by have h1 := lt_of_heap k7; have h2 : w2.heap.size ≤ _ := hlx19; omega⟩
        · refine ordP_step _ (by simp only [List.getElem?_toArray, List.getElem?_cons_succ, List.getElem?_cons_zero]; rfl) ?_ ordP_none
          with_reducible refine arm_alloc (zero256 _) ?_
          intro gx14 wx14 hbx14 hNx14 hUx14 hzx14
          change wx14.heap[gx14]? = some (.cells (zrow8 32) 23 (0, 0)) at hNx14
          have hlx14 := (hTx13).size
          rw [hbx14] at hlx14
          clear hbx14 hzx14
          have hTx14 := hTx13.trans hUx14
          have hx14_fr := hx13_fr.upd0 hUx14
          have hx14_bs := hUx14.heap hNx13 (by simp)
          go_wp2_with fail
          refine ord_more (by simp [Ord.first]) (hTx14) ?_
          refine ordP_step _ (by simp only [List.getElem?_toArray, List.getElem?_cons_succ, List.getElem?_cons_zero]; rfl) ?_ ordP_none
          go_wp2_with fail
          with_reducible refine (HJ1.out _ _ _ hTx14 hx14_bs hx14_fr).mono ?_
          rintro e wx15 ⟨vx15, rfl, hNx15, hUx15⟩
          have hTx15 := hTx14.trans hUx15
          have hx15_fr := hx14_fr.upd0 hUx15
          have hx15_bs := hUx15.heap hx14_bs (by simp)
          have hx15_b9 := hUx15.heap hNx14 (by simp)
          have hMx15 := hNx15.rd
          go_wp2_with fail
          refine ord_more (by simp [Ord.first]) (hTx15) ?_
          refine ordP_step _ (by simp only [List.getElem?_toArray, List.getElem?_cons_succ, List.getElem?_cons_zero]; rfl) ?_ ordP_none
          go_wp2_with fail
          with_reducible refine (HS1.out _ _ hTx15 hMx15).mono ?_
          rintro e wx16 ⟨rfl, hUx16⟩
          have hTx16 := hTx15.trans hUx16
          have hx16_fr := hx15_fr.upd0 hUx16
          have hx16_bs := hUx16.heap hx15_bs (by simp)
          have hx16_b9 := hUx16.heap hx15_b9 (by simp)
          have hx16_jn := hMx15.upd0 hUx16
          go_wp2_with fail
          refine ord_more (by simp [Ord.first]) (hTx16) ?_
          refine ordP_step _ (by simp only [List.getElem?_toArray, List.getElem?_cons_succ, List.getElem?_cons_zero]; rfl) ?_ ordP_none
          with_reducible refine arm_store (by with_unfolding_all exact rfl) (by with_unfolding_all exact rfl) hx16_b9 hs1 ho1 ha1 ?_
          intro wx17 hNx17 hXx17 hzx17
          have hTx17 := (hTx16).trans' hXx17 (fun i hm hi => by have := hlx14; simp at hm; omega)
          go_wp2_with fail
          refine ord_last (hTx17) ?_
          show Exit.then _ _ Exit.normal _ _
          go_wp2_with fail
          go_meet
          exact ⟨_, rfl, hNx17, hTx17, by have h1 := lt_of_heap k7; have h2 : w2.heap.size ≤ _ := hlx14; omega⟩
      · refine ordP_step _ (by simp only [List.getElem?_toArray, List.getElem?_cons_succ, List.getElem?_cons_zero]; rfl) ?_ ordP_none
        with_reducible refine arm_alloc (zero256 _) ?_
        intro gx8 wx8 hbx8 hNx8 hUx8 hzx8
        change wx8.heap[gx8]? = some (.cells (zrow8 32) 23 (0, 0)) at hNx8
        have hlx8 := (hTx7).size
        rw [hbx8] at hlx8
        clear hbx8 hzx8
        have hTx8 := hTx7.trans hUx8
        have hx8_fr := hMx7.upd0 hUx8
        go_wp2_with fail
        refine ord_more (by simp [Ord.first]) (hTx8) ?_
        refine ordP_step _ (by simp only [List.getElem?_toArray, List.getElem?_cons_succ, List.getElem?_cons_zero]; rfl) ?_ ordP_none
        with_reducible refine bs2 (by with_unfolding_all exact rfl) (by with_unfolding_all exact rfl) (hx8_fr).cells HM.out.cells ?_
        intro gx9 wx9 hbx9 hNx9 hUx9
        clear hbx9
        have hTx9 := hTx8.trans hUx9
        have hx9_fr := hx8_fr.upd0 hUx9
        have hx9_b9 := hUx9.heap hNx8 (by simp)
        go_wp2_with fail
        refine ord_more (by simp [Ord.first]) (hTx9) ?_
        refine ordP_step _ (by simp only [List.getElem?_toArray, List.getElem?_cons_succ, List.getElem?_cons_zero]; rfl) ?_ ordP_none
        go_wp2_with fail
        with_reducible refine (HJ1.out _ _ _ hTx9 hNx9 hx9_fr).mono ?_
        rintro e wx10 ⟨vx10, rfl, hNx10, hUx10⟩
        have hTx10 := hTx9.trans hUx10
        have hx10_fr := hx9_fr.upd0 hUx10
        have hx10_b9 := hUx10.heap hx9_b9 (by simp)
        have hx10_bs := hUx10.heap hNx9 (by simp)
        have hMx10 := hNx10.rd
        go_wp2_with fail
        refine ord_more (by simp [Ord.first]) (hTx10) ?_
        refine ordP_step _ (by simp only [List.getElem?_toArray, List.getElem?_cons_succ, List.getElem?_cons_zero]; rfl) ?_ ordP_none
        go_wp2_with fail
        with_reducible refine (HS1.out _ _ hTx10 hMx10).mono ?_
        rintro e wx11 ⟨rfl, hUx11⟩
        have hTx11 := hTx10.trans hUx11
        have hx11_fr := hx10_fr.upd0 hUx11
        have hx11_b9 := hUx11.heap hx10_b9 (by simp)
        have hx11_bs := hUx11.heap hx10_bs (by simp)
        have hx11_jn := hMx10.upd0 hUx11
        go_wp2_with fail
        refine ord_more (by simp [Ord.first]) (hTx11) ?_
        refine ordP_step _ (by simp only [List.getElem?_toArray, List.getElem?_cons_succ, List.getElem?_cons_zero]; rfl) ?_ ordP_none
        with_reducible refine arm_store (by with_unfolding_all exact rfl) (by with_unfolding_all exact rfl) hx11_b9 hs1 ho1 ha1 ?_
        intro wx12 hNx12 hXx12 hzx12
        have hTx12 := (hTx11).trans' hXx12 (fun i hm hi => by have := hlx8; simp at hm; omega)
        go_wp2_with fail
        refine ord_last (hTx12) ?_
        show Exit.then _ _ Exit.normal _ _
        go_wp2_with fail
        go_meet
        exact ⟨_, rfl, hNx12, hTx12, by have h1 := lt_of_heap k7; have h2 : w2.heap.size ≤ _ := hlx8; omega⟩
    · refine ordP_step _ (by simp only [List.getElem?_toArray, List.getElem?_cons_succ, List.getElem?_cons_zero]; rfl) ?_ ordP_none
      with_reducible refine arm_alloc (zero256 _) ?_
      intro gx1 wx1 hbx1 hNx1 hUx1 hzx1
      change wx1.heap[gx1]? = some (.cells (zrow8 32) 23 (0, 0)) at hNx1
      have hlx1 := ((Upd.refl [] w2).drew).size
      rw [hbx1] at hlx1
      clear hbx1 hzx1
      have hTx1 := (Upd.refl [] w2).drew.trans hUx1
      go_wp2_with fail
      refine ord_more (by simp [Ord.first]) (hTx1) ?_
      refine ordP_step _ (by simp only [List.getElem?_toArray, List.getElem?_cons_succ, List.getElem?_cons_zero]; rfl) ?_ ordP_none
      go_wp2_with fail
      with_reducible refine (HF1.out _ hTx1).mono ?_
      rintro e wx2 ⟨vx2, rfl, hNx2, hUx2⟩
      have hTx2 := hTx1.trans hUx2
      have hx2_b9 := hUx2.heap hNx1 (by simp)
      have hMx2 := hNx2.rd
      go_wp2_with fail
      refine ord_more (by simp [Ord.first]) (hTx2) ?_
      refine ordP_step _ (by simp only [List.getElem?_toArray, List.getElem?_cons_succ, List.getElem?_cons_zero]; rfl) ?_ ordP_none
      with_reducible refine bs2 (by with_unfolding_all exact rfl) (by with_unfolding_all exact rfl) (hMx2).cells HM.out.cells ?_
      intro gx3 wx3 hbx3 hNx3 hUx3
      clear hbx3
      have hTx3 := hTx2.trans hUx3
      have hx3_b9 := hUx3.heap hx2_b9 (by simp)
      have hx3_fr := hMx2.upd0 hUx3
      go_wp2_with fail
      refine ord_more (by simp [Ord.first]) (hTx3) ?_
      refine ordP_step _ (by simp only [List.getElem?_toArray, List.getElem?_cons_succ, List.getElem?_cons_zero]; rfl) ?_ ordP_none
      go_wp2_with fail
      with_reducible refine (HJ1.out _ _ _ hTx3 hNx3 hx3_fr).mono ?_
      rintro e wx4 ⟨vx4, rfl, hNx4, hUx4⟩
      have hTx4 := hTx3.trans hUx4
      have hx4_b9 := hUx4.heap hx3_b9 (by simp)
      have hx4_fr := hx3_fr.upd0 hUx4
      have hx4_bs := hUx4.heap hNx3 (by simp)
      have hMx4 := hNx4.rd
      go_wp2_with fail
      refine ord_more (by simp [Ord.first]) (hTx4) ?_
      refine ordP_step _ (by simp only [List.getElem?_toArray, List.getElem?_cons_succ, List.getElem?_cons_zero]; rfl) ?_ ordP_none
      go_wp2_with fail
      with_reducible refine (HS1.out _ _ hTx4 hMx4).mono ?_
      rintro e wx5 ⟨rfl, hUx5⟩
      have hTx5 := hTx4.trans hUx5
      have hx5_b9 := hUx5.heap hx4_b9 (by simp)
      have hx5_fr := hx4_fr.upd0 hUx5
      have hx5_bs := hUx5.heap hx4_bs (by simp)
      have hx5_jn := hMx4.upd0 hUx5
      go_wp2_with fail
      refine ord_more (by simp [Ord.first]) (hTx5) ?_
      refine ordP_step _ (by simp only [List.getElem?_toArray, List.getElem?_cons_succ, List.getElem?_cons_zero]; rfl) ?_ ordP_none
      with_reducible refine arm_store (by with_unfolding_all exact rfl) (by with_unfolding_all exact rfl) hx5_b9 hs1 ho1 ha1 ?_
      intro wx6 hNx6 hXx6 hzx6
      have hTx6 := (hTx5).trans' hXx6 (fun i hm hi => by have := hlx1; simp at hm; omega)
      go_wp2_with fail
      refine ord_last (hTx6) ?_
      show Exit.then _ _ Exit.normal _ _
      go_wp2_with fail
      go_meet
      exact ⟨_, rfl, hNx6, hTx6, by have h1 := lt_of_heap k7; have h2 : w2.heap.size ≤ _ := hlx1; omega⟩
  case rest =>
    obtain ⟨b9, rfl, k9, hV9, n9⟩ := hcut
    have k7' := hV9.heap k7 (by simp)
    go_upto_region 5 with (fail)
    refine wp_region_orders [0, 1, 3, 4] (.step 2 (.step 5 (.step 6 (.step 7 (.step 8 (.step 9 .none .none) .none) .none) .none) .none) .none) (Upd [b7] wc) (by kernel_rfl) (by kernel_rfl) ((Upd.refl _ _).drew) ?_
    refine takeO_cons _ _ rfl rfl (yields_cell rfl (fun w hS => hS.cell (hV9.cell q4 (by simp)) (by simp; omega)) Tryd.underlying39 rfl) ?_
    refine takeO_cons _ _ rfl rfl (yields_move rfl) ?_
    refine takeO_cons _ _ rfl rfl (yields_cell rfl (fun w hS => hS.cell (hV9.cell q3 (by simp)) (by simp; omega)) Tryd.underlying55 rfl) ?_
    refine takeO_cons _ _ rfl rfl (yields_row rfl (fun w hS => ⟨_, _, hS.heap k9 (by simp; omega)⟩) Tryd.underlying23 rfl hs1) ?_
    refine takeO_nil (by simp [Ord.first]) ?_
    refine ordP_step _ (by simp only [List.getElem?_toArray, List.getElem?_cons_succ, List.getElem?_cons_zero]; rfl) ?_ ordP_none
    go_wp2_with fail
    with_reducible refine (HF2.out _ (hV9.trans (Upd.refl [] wc).drew)).mono ?_
    rintro e wx25 ⟨vx25, rfl, hNx25, hUx25⟩
    have hTx25 := (Upd.refl [] wc).drew.trans hUx25
    have hMx25 := hNx25.rd
    go_wp2_with fail
    refine ord_more (by simp [Ord.first]) (Upd.of0 hTx25) ?_
    refine ordP_step _ (by simp only [List.getElem?_toArray, List.getElem?_cons_succ, List.getElem?_cons_zero]; rfl) ?_ ordP_none
    go_wp2_with fail
    with_reducible refine (HL1.out _).mono ?_
    rintro e wx26 ⟨vx26, rfl, hNx26, hUx26⟩
    have hTx26 := hTx25.trans hUx26
    have hx26_fr := hMx25.upd0 hUx26
    go_wp2_with fail
    refine ord_more (by simp [Ord.first]) (Upd.of0 hTx26) ?_
    refine ordP_step _ (by simp only [List.getElem?_toArray, List.getElem?_cons_succ, List.getElem?_cons_zero]; rfl) ?_ ordP_none
    with_reducible refine bs2 (by with_unfolding_all exact rfl) (by with_unfolding_all exact rfl) (hx26_fr).cells (hNx26).cells ?_
    intro gx27 wx27 hbx27 hNx27 hUx27
    clear hbx27
    have hTx27 := hTx26.trans hUx27
    have hx27_fr := hx26_fr.upd0 hUx27
    have hx27_li := hNx26.upd0 hUx27
    go_wp2_with fail
    refine ord_more (by simp [Ord.first]) (Upd.of0 hTx27) ?_
    refine ordP_step _ (by simp only [List.getElem?_toArray, List.getElem?_cons_succ, List.getElem?_cons_zero]; rfl) ?_ ordP_none
    go_wp2_with fail
    with_reducible refine (HJ2.out _ _ _ _ hNx27 hx27_fr hx27_li).mono ?_
    rintro e wx28 ⟨vx28, rfl, hNx28, hUx28⟩
    have hTx28 := hTx27.trans hUx28
    have hx28_fr := hx27_fr.upd0 hUx28
    have hx28_li := hx27_li.upd0 hUx28
    have hx28_bs := hUx28.heap hNx27 (by simp)
    have hMx28 := hNx28.rd
    go_wp2_with fail
    refine ord_more (by simp [Ord.first]) (Upd.of0 hTx28) ?_
    refine ordP_step _ (by simp only [List.getElem?_toArray, List.getElem?_cons_succ, List.getElem?_cons_zero]; rfl) ?_ ordP_none
    go_wp2_with fail
    with_reducible refine (HS2.out _ _ (hV9.trans hTx28) hMx28).mono ?_
    rintro e wx29 ⟨rfl, hUx29⟩
    have hTx29 := hTx28.trans hUx29
    have hx29_fr := hx28_fr.upd0 hUx29
    have hx29_li := hx28_li.upd0 hUx29
    have hx29_bs := hUx29.heap hx28_bs (by simp)
    have hx29_jn := hMx28.upd0 hUx29
    go_wp2_with fail
    refine ord_more (by simp [Ord.first]) (Upd.of0 hTx29) ?_
    refine ordP_step _ (by simp only [List.getElem?_toArray, List.getElem?_cons_succ, List.getElem?_cons_zero]; rfl) ?_ ordP_none
    with_reducible refine arm_store (by with_unfolding_all exact rfl) (by with_unfolding_all exact rfl) ((hTx29).heap k7' (by simp)) hs2 ho2 ha2 ?_
    intro wx30 hNx30 hXx30 hzx30
    have hTx30 := (Upd.of0 (T := [b7]) hTx29).trans hXx30
    have hx30_fr := hx29_fr
    have hx30_li := hx29_li
    have hx30_jn := hx29_jn
    go_wp2_with fail
    refine ord_last (hTx30) ?_
    show Exit.then _ _ Exit.normal _ _
    go_wp2_with fail
    refine bodyPost_ret (v := .agg c2) (results_cell_row rfl _ _ b7 23 _ (0, 0) _ rfl hNx30 Tryd.underlying23 rfl hs2) rfl ⟨by rw [HEQ.out, HC2.out], ?_⟩
    exact (hV2.trans hV9).trans' hTx30 (fun i hm hi => by simp at hm; omega)
theorem RdB.one256 {w : World} {v : Value} {l : List (BitVec 8)} (h : RdB w v l) : v.oneCell' = true := by
  obtain ⟨A, c, rfl, _⟩ := h; rfl
set_option maxRecDepth 100000 in
set_option maxHeartbeats 6400000 in
theorem keyed256_long (w : World) (kv mv : Value) (key msg : List (BitVec 8)) (b2 b3 b4 : Nat) (h2 : w.cell? ⟨b2, 0, none⟩ = some (.int .i64 64)) (h3 : w.cell? ⟨b3, 0, none⟩ = some (.func (.func 22) #[] #[])) (h4 : w.cell? ⟨b4, 0, none⟩ = some (.func (.func 13) #[] #[]))
    (hk : RdB w kv key) (hm : RdB w mv msg) (hml : msg.length ≤ 100000) (hkl : key.length ≤ 100000) (hle : 64 < key.length) (hg : Gl256 w) (hf : GlFirst256 w) :
    Calls Tryd.prog 42 #[kv, mv, .pointer (some ⟨b2, 0, none⟩), .pointer (some ⟨b3, 0, none⟩), .pointer (some ⟨b4, 0, none⟩)] w fun e w' => e = .returned (.agg ((hmac256 key msg).map U8).toArray) ∧ Upd [] w w' := by
  obtain ⟨A, c, e, hc1, hc2⟩ := hk.isSlice
  have HM := Lib.hid hm
  have HG := Lib.hid hg
  have HFI := Lib.hid hf
  have l2 := World.block_lt_of_cell? w _ h2
  have l3 := World.block_lt_of_cell? w _ h3
  have l4 := World.block_lt_of_cell? w _ h4
  obtain ⟨kk, hkk0⟩ : ∃ x, sha256 key = x := ⟨_, rfl⟩
  have hkeq : (if key.length ≤ 64 then key else sha256 key) = kk := by rw [if_neg (by omega), hkk0]
  have hkl2 : kk.length = 32 := by rw [← hkk0]; exact sha256_length _
  have hkk : kk.length ≤ 64 := by omega
  obtain ⟨n, hn⟩ : ∃ n, key.length = n := ⟨_, rfl⟩
  have HS0 : Hid (∀ W, Upd [] w W → Calls Tryd.prog 13 #[.slice A n c] W fun e w' => e = .returned (.agg (kk.map U8).toArray) ∧ Upd [] W w') := fun W hW => by
    have hr := hk.upd0 hW
    rw [e, hn] at hr
    have := sum256 W _ _ hr (by omega) (HG.out.upd hW (by simp)) (HFI.out.upd hW (by simp))
    rwa [hkk0] at this
  have HL0 : Hid (∀ W, Calls Tryd.prog 22 #[.agg (kk.map U8).toArray] W fun e w' => ∃ v, e = .returned v ∧ NewB W w' v kk ∧ Upd [] W w') := fun W => list256' W kk hkl2
  rw [e, hn]
  have hn' : 64 < (n : Int) := by omega
  have hkl' : (n : Int) ≤ 100000 := by omega
  obtain ⟨c0, hc0⟩ : ∃ c, (kk.map U8).toArray = c := ⟨_, rfl⟩
  rw [hc0] at HS0 HL0
  clear hm hg hf e hk hkk0 hn hkl2 hc0
  go_enter Tryd.func42, Tryd.ntmps42
  go_wp2_with (with_reducible refine arm_box (by with_unfolding_all exact rfl) ?_)
  intro b5 w1 hb5 k5 hU1 hz1
  change w1.heap[b5]? = some (.cells #[.slice A n c] 24 (0, 0)) at k5
  go_wp2_with (with_reducible refine arm_alloc (zero256 _) ?_)
  intro b7 wa hb7 k7a hU2 hz2
  change wa.heap[b7]? = some (.cells (zrow8 32) 23 (0, 0)) at k7a
  have k5a := hU2.heap k5 (by simp)
  have q5a : wa.cell? ⟨b5, 0, none⟩ = some (.slice A n c) := by rw [cell_of_row _ _ _ _ _ _ k5a]; rfl
  have q2a := hU2.cell (hU1.cell h2 (by simp)) (by simp)
  have q3a := hU2.cell (hU1.cell h3 (by simp)) (by simp)
  have q4a := hU2.cell (hU1.cell h4 (by simp)) (by simp)
  have hVa := hU1.trans hU2
  have hw1 := hU1.size
  have n3 : b3 ≠ b7 := by change b3 < _ at l3; omega
  have n4 : b4 ≠ b7 := by change b4 < _ at l4; omega
  have m2 : b2 ≠ b5 := by change b2 < _ at l2; omega
  have m3 : b3 ≠ b5 := by change b3 < _ at l3; omega
  have m4 : b4 ≠ b5 := by change b4 < _ at l4; omega
  have m7 : b7 ≠ b5 := by have := lt_of_heap k5; omega
  have hw2 : w.heap.size ≤ b7 := by omega
  have hw5 : w.heap.size ≤ b5 := by omega
  clear hb5 hz1 hb7 hz2 hU1 hU2 k5 h2 h3 h4 hw1 l2 l3 l4
  go_upto_region 2 with (fail)
  refine wp_region_orders [0, 1] (.step 2 (.step 3 (.step 4 (.step 5 .none .none) .none) .none) .none) (Upd [b5] wa) (by kernel_rfl) (by kernel_rfl) ((Upd.refl _ _).drew) ?_
  refine takeO_cons _ _ rfl rfl (yields_cell rfl (fun w hS => hS.cell q3a (by simp; omega)) Tryd.underlying55 rfl) ?_
  refine takeO_cons _ _ rfl rfl (yields_cell rfl (fun w hS => hS.cell q4a (by simp; omega)) Tryd.underlying39 rfl) ?_
  refine takeO_nil (by simp [Ord.first]) ?_
  refine ordP_step _ (by simp only [List.getElem?_toArray, List.getElem?_cons_succ, List.getElem?_cons_zero]; rfl) ?_ ordP_none
  go_wp2_with fail
  refine ord_more (by simp [Ord.first]) (Upd.of0 (Upd.refl [] wa).drew) ?_
  refine ordP_step _ (by simp only [List.getElem?_toArray, List.getElem?_cons_succ, List.getElem?_cons_zero]; rfl) ?_ ordP_none
  go_wp2_with fail
  with_reducible refine (HS0.out _ (hVa.trans (Upd.refl [] wa).drew)).mono ?_
  rintro e wx61 ⟨rfl, hUx61⟩
  have hTx61 := (Upd.refl [] wa).drew.trans hUx61
  go_wp2_with fail
  refine ord_more (by simp [Ord.first]) (Upd.of0 hTx61) ?_
  refine ordP_step _ (by simp only [List.getElem?_toArray, List.getElem?_cons_succ, List.getElem?_cons_zero]; rfl) ?_ ordP_none
  go_wp2_with fail
  with_reducible refine (HL0.out _).mono ?_
  rintro e wx62 ⟨vx62, rfl, hNx62, hUx62⟩
  have hTx62 := hTx61.trans hUx62
  have hMx62 := hNx62.1
  go_wp2_with fail
  refine ord_more (by simp [Ord.first]) (Upd.of0 hTx62) ?_
  refine ordP_step _ (by simp only [List.getElem?_toArray, List.getElem?_cons_succ, List.getElem?_cons_zero]; rfl) ?_ ordP_none
  with_reducible refine arm_store1 (by with_unfolding_all exact rfl) (by with_unfolding_all exact rfl) ((hTx62).heap k5a (by simp)) hMx62.cells (by kernel_rfl) (RdB.one256 hMx62) ?_
  intro wx63 hNx63 hXx63 hzx63
  have hTx63 := (Upd.of0 (T := [b5]) hTx62).trans hXx63
  go_wp2_with fail
  refine ord_last (hTx63) ?_
  show Exit.then _ _ Exit.normal _ _
  have q5 := cell_of_row _ _ 0 _ _ _ hNx63
  have q2 := (hTx63).cell q2a (by simp; omega)
  have q3 := (hTx63).cell q3a (by simp; omega)
  have q4 := (hTx63).cell q4a (by simp; omega)
  have k7 := (hTx63).heap k7a (by simp; omega)
  have hV2 := hVa.trans' hTx63 (fun i hm hi => by simp at hm; omega)
  have hrk := (hMx62).upd hXx63 (fun q hq hm => by have h1 := hNx62.2 q hq; have h2 := lt_of_heap k5a; have h3 := (hTx61).size; simp at hm; change wa.heap.size ≤ _ at h3; omega)
  have HKK := Lib.hid hrk
  clear hrk
  obtain ⟨w2, rfl⟩ : ∃ x, x = wx63 := ⟨_, rfl⟩
  clear q2a q3a q4a q5a k5a k7a hVa
  obtain ⟨H1, hH1⟩ : ∃ H, sha256 (frameOf kk 64 0x36 ++ msg) = H := ⟨_, rfl⟩
  obtain ⟨H2, hH2⟩ : ∃ H, sha256 (frameOf kk 64 0x5c ++ H1) = H := ⟨_, rfl⟩
  have hl1 : H1.length = 32 := by rw [← hH1]; exact sha256_length _
  have hl2 : H2.length = 32 := by rw [← hH2]; exact sha256_length _
  have hfl1 : (frameOf kk 64 0x36).length = 64 := frameOf_length _ _ _ hkk
  have hfl2 : (frameOf kk 64 0x5c).length = 64 := frameOf_length _ _ _ hkk
  have HF1 : Hid (∀ W, Upd [] w2 W → Calls Tryd.prog 43 #[.int .u8 54, .pointer (some ⟨b2, 0, none⟩), .pointer (some ⟨b5, 0, none⟩)] W fun e w' => ∃ v, e = .returned v ∧ OwnB w' W.heap.size v (frameOf kk 64 0x36) ∧ Upd [] W w') := fun W hW =>
    frame256 W vx62 kk b2 b5 64 0x36 (hW.cell q2 (by simp)) (hW.cell q5 (by simp)) (HKK.out.upd0 hW) hkk (by omega) (by omega)
  have HF2 : Hid (∀ W, Upd [] w2 W → Calls Tryd.prog 43 #[.int .u8 92, .pointer (some ⟨b2, 0, none⟩), .pointer (some ⟨b5, 0, none⟩)] W fun e w' => ∃ v, e = .returned v ∧ OwnB w' W.heap.size v (frameOf kk 64 0x5c) ∧ Upd [] W w') := fun W hW =>
    frame256 W vx62 kk b2 b5 64 0x5c (hW.cell q2 (by simp)) (hW.cell q5 (by simp)) (HKK.out.upd0 hW) hkk (by omega) (by omega)
  have HS1 : Hid (∀ W v, Upd [] w2 W → RdB W v (frameOf kk 64 0x36 ++ msg) → Calls Tryd.prog 13 #[v] W fun e w' => e = .returned (.agg (H1.map U8).toArray) ∧ Upd [] W w') := fun W v hW hr => by
    have := sum256 W v _ hr (by rw [List.length_append, hfl1]; omega) (HG.out.upd (hV2.trans hW) (by simp)) (HFI.out.upd (hV2.trans hW) (by simp))
    rwa [hH1] at this
  have HS2 : Hid (∀ W v, Upd [] w2 W → RdB W v (frameOf kk 64 0x5c ++ H1) → Calls Tryd.prog 13 #[v] W fun e w' => e = .returned (.agg (H2.map U8).toArray) ∧ Upd [] W w') := fun W v hW hr => by
    have := sum256 W v _ hr (by rw [List.length_append, hfl2, hl1]; omega) (HG.out.upd (hV2.trans hW) (by simp)) (HFI.out.upd (hV2.trans hW) (by simp))
    rwa [hH2] at this
  have HJ1 : Hid (∀ W G v1, Upd [] w2 W → W.heap[G]? = some (.cells #[v1, mv] 24 (0, 0)) → RdB W v1 (frameOf kk 64 0x36) → Calls Tryd.prog 20 #[.slice (some ⟨G, 0, none⟩) 2 2] W fun e w' => ∃ v, e = .returned v ∧ OwnB w' W.heap.size v (frameOf kk 64 0x36 ++ msg) ∧ Upd [] W w') := fun W G v1 hW hk hr =>
    join2 W G v1 mv _ _ _ _ hk hr (HM.out.upd0 (hV2.trans hW)) (by rw [hfl1]; omega)
  have HJ2 : Hid (∀ W G v1 v2, W.heap[G]? = some (.cells #[v1, v2] 24 (0, 0)) → RdB W v1 (frameOf kk 64 0x5c) → RdB W v2 H1 → Calls Tryd.prog 20 #[.slice (some ⟨G, 0, none⟩) 2 2] W fun e w' => ∃ v, e = .returned v ∧ OwnB w' W.heap.size v (frameOf kk 64 0x5c ++ H1) ∧ Upd [] W w') := fun W G v1 v2 hk h1 h2 =>
    join2 W G v1 v2 _ _ _ _ hk h1 h2 (by rw [hfl2, hl1]; omega)
  have HL1 : Hid (∀ W, Calls Tryd.prog 22 #[.agg (H1.map U8).toArray] W fun e w' => ∃ v, e = .returned v ∧ RdB w' v H1 ∧ Upd [] W w') := fun W => list256 W H1 hl1
  have hs1 := szrow256 hl1
  have ho1 := sameZ256 hl1
  have ha1 : ((H1.map U8).toArray).all (·.oneCell') = true := by simp
  have hs2 := szrow256 hl2
  have ho2 := sameZ256 hl2
  have ha2 : ((H2.map U8).toArray).all (·.oneCell') = true := by simp
  have HEQ : Hid (hmac256 key msg = H2) := by show hmac256 key msg = H2; rw [hmac256, hkeq, hH1, hH2]
  obtain ⟨c1, hc1⟩ : ∃ c, (H1.map U8).toArray = c := ⟨_, rfl⟩
  obtain ⟨c2, hc2⟩ : ∃ c, (H2.map U8).toArray = c := ⟨_, rfl⟩
  have HC2 := Lib.hid hc2
  rw [hc1] at HS1 HL1 hs1 ho1 ha1
  rw [hc2] at HS2 hs2 ho2 ha2
  clear hH1 hH2 hl1 hl2 hfl1 hfl2 hkk hkeq hc1 hc2
  go_upto_region 4 with (fail)
  go_cut [9] (fun s9 wx => ∃ b9, s9 = .pointer (some ⟨b9, 0, none⟩) ∧ wx.heap[b9]? = some (.cells c1 23 (0, 0)) ∧ Upd [] w2 wx ∧ b9 ≠ b7)
  case first =>
    refine wp_region_orders [0, 1, 3] (.step 2 (.step 4 (.step 5 (.step 6 (.step 7 (.step 8 .none .none) .none) (.step 7 (.step 6 (.step 8 .none .none) .none) .none)) (.step 7 (.step 5 (.step 6 (.step 8 .none .none) .none) .none) .none)) (.step 7 (.step 4 (.step 5 (.step 6 (.step 8 .none .none) .none) .none) .none) .none)) (.step 7 (.step 2 (.step 4 (.step 5 (.step 6 (.step 8 .none .none) .none) .none) .none) .none) .none)) (Upd [] w2) (by kernel_rfl) (by kernel_rfl) ((Upd.refl _ _).drew) ?_
    refine takeO_cons _ _ rfl rfl (yields_cell rfl (fun w hS => hS.cell q4 (by simp)) Tryd.underlying39 rfl) ?_
    refine takeO_cons _ _ rfl rfl (yields_move rfl) ?_
    refine takeO_cons _ _ rfl rfl (yields_move rfl) ?_
    refine takeO_nil (by simp [Ord.first]) ?_
    refine ordP_step _ (by simp only [List.getElem?_toArray, List.getElem?_cons_succ, List.getElem?_cons_zero]; rfl) ?_ ?_
    · go_wp2_with fail
      with_reducible refine (HF1.out _ (Upd.refl [] w2).drew).mono ?_
      rintro e wx37 ⟨vx37, rfl, hNx37, hUx37⟩
      have hTx37 := (Upd.refl [] w2).drew.trans hUx37
      have hMx37 := hNx37.rd
      go_wp2_with fail
      refine ord_more (by simp [Ord.first]) (hTx37) ?_
      refine ordP_step _ (by simp only [List.getElem?_toArray, List.getElem?_cons_succ, List.getElem?_cons_zero]; rfl) ?_ ?_
      · with_reducible refine bs2 (by with_unfolding_all exact rfl) (by with_unfolding_all exact rfl) (hMx37).cells HM.out.cells ?_
        intro gx43 wx43 hbx43 hNx43 hUx43
        clear hbx43
        have hTx43 := hTx37.trans hUx43
        have hx43_fr := hMx37.upd0 hUx43
        go_wp2_with fail
        refine ord_more (by simp [Ord.first]) (hTx43) ?_
        refine ordP_step _ (by simp only [List.getElem?_toArray, List.getElem?_cons_succ, List.getElem?_cons_zero]; rfl) ?_ ?_
        · go_wp2_with fail
          with_reducible refine (HJ1.out _ _ _ hTx43 hNx43 hx43_fr).mono ?_
          rintro e wx48 ⟨vx48, rfl, hNx48, hUx48⟩
          have hTx48 := hTx43.trans hUx48
          have hx48_fr := hx43_fr.upd0 hUx48
          have hx48_bs := hUx48.heap hNx43 (by simp)
          have hMx48 := hNx48.rd
          go_wp2_with fail
          refine ord_more (by simp [Ord.first]) (hTx48) ?_
          refine ordP_step _ (by simp only [List.getElem?_toArray, List.getElem?_cons_succ, List.getElem?_cons_zero]; rfl) ?_ ?_
          · go_wp2_with fail
            with_reducible refine (HS1.out _ _ hTx48 hMx48).mono ?_
            rintro e wx52 ⟨rfl, hUx52⟩
            have hTx52 := hTx48.trans hUx52
            have hx52_fr := hx48_fr.upd0 hUx52
            have hx52_bs := hUx52.heap hx48_bs (by simp)
            have hx52_jn := hMx48.upd0 hUx52
            go_wp2_with fail
            refine ord_more (by simp [Ord.first]) (hTx52) ?_
            refine ordP_step _ (by simp only [List.getElem?_toArray, List.getElem?_cons_succ, List.getElem?_cons_zero]; rfl) ?_ ordP_none
            with_reducible refine arm_alloc (zero256 _) ?_
            intro gx53 wx53 hbx53 hNx53 hUx53 hzx53
            change wx53.heap[gx53]? = some (.cells (zrow8 32) 23 (0, 0)) at hNx53
            have hlx53 := (hTx52).size
            rw [hbx53] at hlx53
            clear hbx53 hzx53
            have hTx53 := hTx52.trans hUx53
            have hx53_fr := hx52_fr.upd0 hUx53
            have hx53_bs := hUx53.heap hx52_bs (by simp)
            have hx53_jn := hx52_jn.upd0 hUx53
            go_wp2_with fail
            refine ord_more (by simp [Ord.first]) (hTx53) ?_
            refine ordP_step _ (by simp only [List.getElem?_toArray, List.getElem?_cons_succ, List.getElem?_cons_zero]; rfl) ?_ ordP_none
            with_reducible refine arm_store (by with_unfolding_all exact rfl) (by with_unfolding_all exact rfl) hNx53 hs1 ho1 ha1 ?_
            intro wx54 hNx54 hXx54 hzx54
            have hTx54 := (hTx53).trans' hXx54 (fun i hm hi => by have := hlx53; simp at hm; omega)
            go_wp2_with fail
            refine ord_last (hTx54) ?_
            show Exit.then _ _ Exit.normal _ _
            go_wp2_with fail
            go_meet
            exact ⟨_, rfl, hNx54, hTx54, by have h1 := lt_of_heap k7; have h2 : w2.heap.size ≤ _ := hlx53; omega⟩
          · refine ordP_step _ (by simp only [List.getElem?_toArray, List.getElem?_cons_succ, List.getElem?_cons_zero]; rfl) ?_ ordP_none
            with_reducible refine arm_alloc (zero256 _) ?_
            intro gx49 wx49 hbx49 hNx49 hUx49 hzx49
            change wx49.heap[gx49]? = some (.cells (zrow8 32) 23 (0, 0)) at hNx49
            have hlx49 := (hTx48).size
            rw [hbx49] at hlx49
            clear hbx49 hzx49
            have hTx49 := hTx48.trans hUx49
            have hx49_fr := hx48_fr.upd0 hUx49
            have hx49_bs := hUx49.heap hx48_bs (by simp)
            have hx49_jn := hMx48.upd0 hUx49
            go_wp2_with fail
            refine ord_more (by simp [Ord.first]) (hTx49) ?_
            refine ordP_step _ (by simp only [List.getElem?_toArray, List.getElem?_cons_succ, List.getElem?_cons_zero]; rfl) ?_ ordP_none
            go_wp2_with fail
            with_reducible refine (HS1.out _ _ hTx49 hx49_jn).mono ?_
            rintro e wx50 ⟨rfl, hUx50⟩
            have hTx50 := hTx49.trans hUx50
            have hx50_fr := hx49_fr.upd0 hUx50
            have hx50_bs := hUx50.heap hx49_bs (by simp)
            have hx50_jn := hx49_jn.upd0 hUx50
            have hx50_b9 := hUx50.heap hNx49 (by simp)
            go_wp2_with fail
            refine ord_more (by simp [Ord.first]) (hTx50) ?_
            refine ordP_step _ (by simp only [List.getElem?_toArray, List.getElem?_cons_succ, List.getElem?_cons_zero]; rfl) ?_ ordP_none
            with_reducible refine arm_store (by with_unfolding_all exact rfl) (by with_unfolding_all exact rfl) hx50_b9 hs1 ho1 ha1 ?_
            intro wx51 hNx51 hXx51 hzx51
            have hTx51 := (hTx50).trans' hXx51 (fun i hm hi => by have := hlx49; simp at hm; omega)
            go_wp2_with fail
            refine ord_last (hTx51) ?_
            show Exit.then _ _ Exit.normal _ _
            go_wp2_with fail
            go_meet
            exact ⟨_, rfl, hNx51, hTx51, by have h1 := lt_of_heap k7; have h2 : w2.heap.size ≤ _ := hlx49; omega⟩
        · refine ordP_step _ (by simp only [List.getElem?_toArray, List.getElem?_cons_succ, List.getElem?_cons_zero]; rfl) ?_ ordP_none
          with_reducible refine arm_alloc (zero256 _) ?_
          intro gx44 wx44 hbx44 hNx44 hUx44 hzx44
          change wx44.heap[gx44]? = some (.cells (zrow8 32) 23 (0, 0)) at hNx44
          have hlx44 := (hTx43).size
          rw [hbx44] at hlx44
          clear hbx44 hzx44
          have hTx44 := hTx43.trans hUx44
          have hx44_fr := hx43_fr.upd0 hUx44
          have hx44_bs := hUx44.heap hNx43 (by simp)
          go_wp2_with fail
          refine ord_more (by simp [Ord.first]) (hTx44) ?_
          refine ordP_step _ (by simp only [List.getElem?_toArray, List.getElem?_cons_succ, List.getElem?_cons_zero]; rfl) ?_ ordP_none
          go_wp2_with fail
          with_reducible refine (HJ1.out _ _ _ hTx44 hx44_bs hx44_fr).mono ?_
          rintro e wx45 ⟨vx45, rfl, hNx45, hUx45⟩
          have hTx45 := hTx44.trans hUx45
          have hx45_fr := hx44_fr.upd0 hUx45
          have hx45_bs := hUx45.heap hx44_bs (by simp)
          have hx45_b9 := hUx45.heap hNx44 (by simp)
          have hMx45 := hNx45.rd
          go_wp2_with fail
          refine ord_more (by simp [Ord.first]) (hTx45) ?_
          refine ordP_step _ (by simp only [List.getElem?_toArray, List.getElem?_cons_succ, List.getElem?_cons_zero]; rfl) ?_ ordP_none
          go_wp2_with fail
          with_reducible refine (HS1.out _ _ hTx45 hMx45).mono ?_
          rintro e wx46 ⟨rfl, hUx46⟩
          have hTx46 := hTx45.trans hUx46
          have hx46_fr := hx45_fr.upd0 hUx46
          have hx46_bs := hUx46.heap hx45_bs (by simp)
          have hx46_b9 := hUx46.heap hx45_b9 (by simp)
          have hx46_jn := hMx45.upd0 hUx46
          go_wp2_with fail
          refine ord_more (by simp [Ord.first]) (hTx46) ?_
          refine ordP_step _ (by simp only [List.getElem?_toArray, List.getElem?_cons_succ, List.getElem?_cons_zero]; rfl) ?_ ordP_none
          with_reducible refine arm_store (by with_unfolding_all exact rfl) (by with_unfolding_all exact rfl) hx46_b9 hs1 ho1 ha1 ?_
          intro wx47 hNx47 hXx47 hzx47
          have hTx47 := (hTx46).trans' hXx47 (fun i hm hi => by have := hlx44; simp at hm; omega)
          go_wp2_with fail
          refine ord_last (hTx47) ?_
          show Exit.then _ _ Exit.normal _ _
          go_wp2_with fail
          go_meet
          exact ⟨_, rfl, hNx47, hTx47, by have h1 := lt_of_heap k7; have h2 : w2.heap.size ≤ _ := hlx44; omega⟩
      · refine ordP_step _ (by simp only [List.getElem?_toArray, List.getElem?_cons_succ, List.getElem?_cons_zero]; rfl) ?_ ordP_none
        with_reducible refine arm_alloc (zero256 _) ?_
        intro gx38 wx38 hbx38 hNx38 hUx38 hzx38
        change wx38.heap[gx38]? = some (.cells (zrow8 32) 23 (0, 0)) at hNx38
        have hlx38 := (hTx37).size
        rw [hbx38] at hlx38
        clear hbx38 hzx38
        have hTx38 := hTx37.trans hUx38
        have hx38_fr := hMx37.upd0 hUx38
        go_wp2_with fail
        refine ord_more (by simp [Ord.first]) (hTx38) ?_
        refine ordP_step _ (by simp only [List.getElem?_toArray, List.getElem?_cons_succ, List.getElem?_cons_zero]; rfl) ?_ ordP_none
        with_reducible refine bs2 (by with_unfolding_all exact rfl) (by with_unfolding_all exact rfl) (hx38_fr).cells HM.out.cells ?_
        intro gx39 wx39 hbx39 hNx39 hUx39
        clear hbx39
        have hTx39 := hTx38.trans hUx39
        have hx39_fr := hx38_fr.upd0 hUx39
        have hx39_b9 := hUx39.heap hNx38 (by simp)
        go_wp2_with fail
        refine ord_more (by simp [Ord.first]) (hTx39) ?_
        refine ordP_step _ (by simp only [List.getElem?_toArray, List.getElem?_cons_succ, List.getElem?_cons_zero]; rfl) ?_ ordP_none
        go_wp2_with fail
        with_reducible refine (HJ1.out _ _ _ hTx39 hNx39 hx39_fr).mono ?_
        rintro e wx40 ⟨vx40, rfl, hNx40, hUx40⟩
        have hTx40 := hTx39.trans hUx40
        have hx40_fr := hx39_fr.upd0 hUx40
        have hx40_b9 := hUx40.heap hx39_b9 (by simp)
        have hx40_bs := hUx40.heap hNx39 (by simp)
        have hMx40 := hNx40.rd
        go_wp2_with fail
        refine ord_more (by simp [Ord.first]) (hTx40) ?_
        refine ordP_step _ (by simp only [List.getElem?_toArray, List.getElem?_cons_succ, List.getElem?_cons_zero]; rfl) ?_ ordP_none
        go_wp2_with fail
        with_reducible refine (HS1.out _ _ hTx40 hMx40).mono ?_
        rintro e wx41 ⟨rfl, hUx41⟩
        have hTx41 := hTx40.trans hUx41
        have hx41_fr := hx40_fr.upd0 hUx41
        have hx41_b9 := hUx41.heap hx40_b9 (by simp)
        have hx41_bs := hUx41.heap hx40_bs (by simp)
        have hx41_jn := hMx40.upd0 hUx41
        go_wp2_with fail
        refine ord_more (by simp [Ord.first]) (hTx41) ?_
        refine ordP_step _ (by simp only [List.getElem?_toArray, List.getElem?_cons_succ, List.getElem?_cons_zero]; rfl) ?_ ordP_none
        with_reducible refine arm_store (by with_unfolding_all exact rfl) (by with_unfolding_all exact rfl) hx41_b9 hs1 ho1 ha1 ?_
        intro wx42 hNx42 hXx42 hzx42
        have hTx42 := (hTx41).trans' hXx42 (fun i hm hi => by have := hlx38; simp at hm; omega)
        go_wp2_with fail
        refine ord_last (hTx42) ?_
        show Exit.then _ _ Exit.normal _ _
        go_wp2_with fail
        go_meet
        exact ⟨_, rfl, hNx42, hTx42, by have h1 := lt_of_heap k7; have h2 : w2.heap.size ≤ _ := hlx38; omega⟩
    · refine ordP_step _ (by simp only [List.getElem?_toArray, List.getElem?_cons_succ, List.getElem?_cons_zero]; rfl) ?_ ordP_none
      with_reducible refine arm_alloc (zero256 _) ?_
      intro gx31 wx31 hbx31 hNx31 hUx31 hzx31
      change wx31.heap[gx31]? = some (.cells (zrow8 32) 23 (0, 0)) at hNx31
      have hlx31 := ((Upd.refl [] w2).drew).size
      rw [hbx31] at hlx31
      clear hbx31 hzx31
      have hTx31 := (Upd.refl [] w2).drew.trans hUx31
      go_wp2_with fail
      refine ord_more (by simp [Ord.first]) (hTx31) ?_
      refine ordP_step _ (by simp only [List.getElem?_toArray, List.getElem?_cons_succ, List.getElem?_cons_zero]; rfl) ?_ ordP_none
      go_wp2_with fail
      with_reducible refine (HF1.out _ hTx31).mono ?_
      rintro e wx32 ⟨vx32, rfl, hNx32, hUx32⟩
      have hTx32 := hTx31.trans hUx32
      have hx32_b9 := hUx32.heap hNx31 (by simp)
      have hMx32 := hNx32.rd
      go_wp2_with fail
      refine ord_more (by simp [Ord.first]) (hTx32) ?_
      refine ordP_step _ (by simp only [List.getElem?_toArray, List.getElem?_cons_succ, List.getElem?_cons_zero]; rfl) ?_ ordP_none
      with_reducible refine bs2 (by with_unfolding_all exact rfl) (by with_unfolding_all exact rfl) (hMx32).cells HM.out.cells ?_
      intro gx33 wx33 hbx33 hNx33 hUx33
      clear hbx33
      have hTx33 := hTx32.trans hUx33
      have hx33_b9 := hUx33.heap hx32_b9 (by simp)
      have hx33_fr := hMx32.upd0 hUx33
      go_wp2_with fail
      refine ord_more (by simp [Ord.first]) (hTx33) ?_
      refine ordP_step _ (by simp only [List.getElem?_toArray, List.getElem?_cons_succ, List.getElem?_cons_zero]; rfl) ?_ ordP_none
      go_wp2_with fail
      with_reducible refine (HJ1.out _ _ _ hTx33 hNx33 hx33_fr).mono ?_
      rintro e wx34 ⟨vx34, rfl, hNx34, hUx34⟩
      have hTx34 := hTx33.trans hUx34
      have hx34_b9 := hUx34.heap hx33_b9 (by simp)
      have hx34_fr := hx33_fr.upd0 hUx34
      have hx34_bs := hUx34.heap hNx33 (by simp)
      have hMx34 := hNx34.rd
      go_wp2_with fail
      refine ord_more (by simp [Ord.first]) (hTx34) ?_
      refine ordP_step _ (by simp only [List.getElem?_toArray, List.getElem?_cons_succ, List.getElem?_cons_zero]; rfl) ?_ ordP_none
      go_wp2_with fail
      with_reducible refine (HS1.out _ _ hTx34 hMx34).mono ?_
      rintro e wx35 ⟨rfl, hUx35⟩
      have hTx35 := hTx34.trans hUx35
      have hx35_b9 := hUx35.heap hx34_b9 (by simp)
      have hx35_fr := hx34_fr.upd0 hUx35
      have hx35_bs := hUx35.heap hx34_bs (by simp)
      have hx35_jn := hMx34.upd0 hUx35
      go_wp2_with fail
      refine ord_more (by simp [Ord.first]) (hTx35) ?_
      refine ordP_step _ (by simp only [List.getElem?_toArray, List.getElem?_cons_succ, List.getElem?_cons_zero]; rfl) ?_ ordP_none
      with_reducible refine arm_store (by with_unfolding_all exact rfl) (by with_unfolding_all exact rfl) hx35_b9 hs1 ho1 ha1 ?_
      intro wx36 hNx36 hXx36 hzx36
      have hTx36 := (hTx35).trans' hXx36 (fun i hm hi => by have := hlx31; simp at hm; omega)
      go_wp2_with fail
      refine ord_last (hTx36) ?_
      show Exit.then _ _ Exit.normal _ _
      go_wp2_with fail
      go_meet
      exact ⟨_, rfl, hNx36, hTx36, by have h1 := lt_of_heap k7; have h2 : w2.heap.size ≤ _ := hlx31; omega⟩
  case rest =>
    obtain ⟨b9, rfl, k9, hV9, n9⟩ := hcut
    have k7' := hV9.heap k7 (by simp)
    go_upto_region 5 with (fail)
    refine wp_region_orders [0, 1, 3, 4] (.step 2 (.step 5 (.step 6 (.step 7 (.step 8 (.step 9 .none .none) .none) .none) .none) .none) .none) (Upd [b7] wc) (by kernel_rfl) (by kernel_rfl) ((Upd.refl _ _).drew) ?_
    refine takeO_cons _ _ rfl rfl (yields_cell rfl (fun w hS => hS.cell (hV9.cell q4 (by simp)) (by simp; omega)) Tryd.underlying39 rfl) ?_
    refine takeO_cons _ _ rfl rfl (yields_move rfl) ?_
    refine takeO_cons _ _ rfl rfl (yields_cell rfl (fun w hS => hS.cell (hV9.cell q3 (by simp)) (by simp; omega)) Tryd.underlying55 rfl) ?_
    refine takeO_cons _ _ rfl rfl (yields_row rfl (fun w hS => ⟨_, _, hS.heap k9 (by simp; omega)⟩) Tryd.underlying23 rfl hs1) ?_
    refine takeO_nil (by simp [Ord.first]) ?_
    refine ordP_step _ (by simp only [List.getElem?_toArray, List.getElem?_cons_succ, List.getElem?_cons_zero]; rfl) ?_ ordP_none
    go_wp2_with fail
    with_reducible refine (HF2.out _ (hV9.trans (Upd.refl [] wc).drew)).mono ?_
    rintro e wx55 ⟨vx55, rfl, hNx55, hUx55⟩
    have hTx55 := (Upd.refl [] wc).drew.trans hUx55
    have hMx55 := hNx55.rd
    go_wp2_with fail
    refine ord_more (by simp [Ord.first]) (Upd.of0 hTx55) ?_
    refine ordP_step _ (by simp only [List.getElem?_toArray, List.getElem?_cons_succ, List.getElem?_cons_zero]; rfl) ?_ ordP_none
    go_wp2_with fail
    with_reducible refine (HL1.out _).mono ?_
    rintro e wx56 ⟨vx56, rfl, hNx56, hUx56⟩
    have hTx56 := hTx55.trans hUx56
    have hx56_fr := hMx55.upd0 hUx56
    go_wp2_with fail
    refine ord_more (by simp [Ord.first]) (Upd.of0 hTx56) ?_
    refine ordP_step _ (by simp only [List.getElem?_toArray, List.getElem?_cons_succ, List.getElem?_cons_zero]; rfl) ?_ ordP_none
    with_reducible refine bs2 (by with_unfolding_all exact rfl) (by with_unfolding_all exact rfl) (hx56_fr).cells (hNx56).cells ?_
    intro gx57 wx57 hbx57 hNx57 hUx57
    clear hbx57
    have hTx57 := hTx56.trans hUx57
    have hx57_fr := hx56_fr.upd0 hUx57
    have hx57_li := hNx56.upd0 hUx57
    go_wp2_with fail
    refine ord_more (by simp [Ord.first]) (Upd.of0 hTx57) ?_
    refine ordP_step _ (by simp only [List.getElem?_toArray, List.getElem?_cons_succ, List.getElem?_cons_zero]; rfl) ?_ ordP_none
    go_wp2_with fail
    with_reducible refine (HJ2.out _ _ _ _ hNx57 hx57_fr hx57_li).mono ?_
    rintro e wx58 ⟨vx58, rfl, hNx58, hUx58⟩
    have hTx58 := hTx57.trans hUx58
    have hx58_fr := hx57_fr.upd0 hUx58
    have hx58_li := hx57_li.upd0 hUx58
    have hx58_bs := hUx58.heap hNx57 (by simp)
    have hMx58 := hNx58.rd
    go_wp2_with fail
    refine ord_more (by simp [Ord.first]) (Upd.of0 hTx58) ?_
    refine ordP_step _ (by simp only [List.getElem?_toArray, List.getElem?_cons_succ, List.getElem?_cons_zero]; rfl) ?_ ordP_none
    go_wp2_with fail
    with_reducible refine (HS2.out _ _ (hV9.trans hTx58) hMx58).mono ?_
    rintro e wx59 ⟨rfl, hUx59⟩
    have hTx59 := hTx58.trans hUx59
    have hx59_fr := hx58_fr.upd0 hUx59
    have hx59_li := hx58_li.upd0 hUx59
    have hx59_bs := hUx59.heap hx58_bs (by simp)
    have hx59_jn := hMx58.upd0 hUx59
    go_wp2_with fail
    refine ord_more (by simp [Ord.first]) (Upd.of0 hTx59) ?_
    refine ordP_step _ (by simp only [List.getElem?_toArray, List.getElem?_cons_succ, List.getElem?_cons_zero]; rfl) ?_ ordP_none
    with_reducible refine arm_store (by with_unfolding_all exact rfl) (by with_unfolding_all exact rfl) ((hTx59).heap k7' (by simp)) hs2 ho2 ha2 ?_
    intro wx60 hNx60 hXx60 hzx60
    have hTx60 := (Upd.of0 (T := [b7]) hTx59).trans hXx60
    have hx60_fr := hx59_fr
    have hx60_li := hx59_li
    have hx60_jn := hx59_jn
    go_wp2_with fail
    refine ord_last (hTx60) ?_
    show Exit.then _ _ Exit.normal _ _
    go_wp2_with fail
    refine bodyPost_ret (v := .agg c2) (results_cell_row rfl _ _ b7 23 _ (0, 0) _ rfl hNx60 Tryd.underlying23 rfl hs2) rfl ⟨by rw [HEQ.out, HC2.out], ?_⟩
    exact (hV2.trans hV9).trans' hTx60 (fun i hm hi => by simp at hm; omega)
set_option maxRecDepth 100000 in
theorem keyed256 (w : World) (kv mv : Value) (key msg : List (BitVec 8)) (b2 b3 b4 : Nat) (h2 : w.cell? ⟨b2, 0, none⟩ = some (.int .i64 64)) (h3 : w.cell? ⟨b3, 0, none⟩ = some (.func (.func 22) #[] #[])) (h4 : w.cell? ⟨b4, 0, none⟩ = some (.func (.func 13) #[] #[]))
    (hk : RdB w kv key) (hm : RdB w mv msg) (hml : msg.length ≤ 100000) (hkl : key.length ≤ 100000) (hg : Gl256 w) (hf : GlFirst256 w) :
    Calls Tryd.prog 42 #[kv, mv, .pointer (some ⟨b2, 0, none⟩), .pointer (some ⟨b3, 0, none⟩), .pointer (some ⟨b4, 0, none⟩)] w fun e w' => e = .returned (.agg ((hmac256 key msg).map U8).toArray) ∧ Upd [] w w' := by
  by_cases h : key.length ≤ 64
  · exact keyed256_short w kv mv key msg b2 b3 b4 h2 h3 h4 hk hm hml h hg hf
  · exact keyed256_long w kv mv key msg b2 b3 b4 h2 h3 h4 hk hm hml hkl (by omega) hg hf
end Go.Proofs.YtgpieipflidkpaaDoor
