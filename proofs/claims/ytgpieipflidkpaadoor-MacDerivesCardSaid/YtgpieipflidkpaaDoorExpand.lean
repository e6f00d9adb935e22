/-
  Expand: bytes out of a key, block by block.
-/
import Derived.Test.YtgpieipflidkpaaDoorLawKeys04
namespace Go.Proofs.YtgpieipflidkpaaDoor
open Go Go.RowKit Go.Proofs
/-- the block number k of what is expanded -/
def tblk (key info : List (BitVec 8)) : Nat → List (BitVec 8)
  | 0 => []
  | k + 1 => hmac256 key (tblk key info k ++ (info ++ [BitVec.ofNat 8 (k + 1)]))
/-- the first k blocks -/
def cblk (key info : List (BitVec 8)) : Nat → List (BitVec 8)
  | 0 => []
  | k + 1 => cblk key info k ++ tblk key info (k + 1)
theorem tblk_length (key info : List (BitVec 8)) (k : Nat) : (tblk key info (k + 1)).length = 32 := hmac256_length _ _
theorem tblk_le (key info : List (BitVec 8)) : ∀ k, (tblk key info k).length ≤ 32
  | 0 => by simp [tblk]
  | k + 1 => by rw [tblk_length]; omega
theorem cblk_length (key info : List (BitVec 8)) : ∀ k, (cblk key info k).length = 32 * k
  | 0 => rfl
  | k + 1 => by rw [cblk, List.length_append, cblk_length key info k, tblk_length]; omega
/-- what is expanded -/
def expOf (key info : List (BitVec 8)) (n : Nat) : List (BitVec 8) := (cblk key info ((n + 31) / 32)).take n
theorem expOf_length (key info : List (BitVec 8)) (n : Nat) : (expOf key info n).length = n := by
  unfold expOf; rw [List.length_take, cblk_length]; omega
set_option maxRecDepth 100000 in
/-- the cut s[:j:j] -/
theorem cap_bytes {w : World} {ops : Array Oper} {rest : List Oper} {a : Act} {Q : Exit → Act → World → Prop} {dst : Option Tmp} {type : TypeId} {pos : String} {after : Array Edge} {x y z : Operand} {A : Option Addr} {n c j : Nat} {l : List (BitVec 8)} (hx : a.eval x = .slice A n c) (hy : a.eval y = .int .i64 j) (hz : a.eval z = .int .i64 j)
    (hr : RdB w (.slice A n c) l) (hj : j ≤ n)
    (h : ∀ u, RdB w u (l.take j) → (∀ k, u.ownBlock = some k → (Value.slice A n c).ownBlock = some k) → wpList Tryd.prog ops Q rest (a.put dst u) w) :
    wpList Tryd.prog ops Q (⟨dst, .slice 24 x none (some y) (some z), type, pos, after, none⟩ :: rest) a w := by
  have h3 : n ≤ c := by
    obtain ⟨A', c', e, hc1, _⟩ := hr
    injection e with e1 e2 e3
    omega
  obtain ⟨i0, hi0, _, hsz, _⟩ := info_byte
  have helem : Tryd.prog.elem 24 = 5 := by kernel_rfl
  have hss : (sizeOf 5).run Tryd.prog w = .ok 1 w := by simp [sizeOf, typeInfo, hi0, hsz]
  refine wpList_plain rfl fun K hK => ?_
  have hrun := run_slice_hm (P := Tryd.prog) w 24 A n c (by rw [helem]; exact Tryd.underlying24) .i64 .i64 j j (by omega) (by omega) (by omega)
  rw [helem, hss] at hrun
  rw [← run_sliceAt_slice w 24 _ _ _ _ (by rw [helem]; exact Tryd.underlying24)] at hrun
  have hr2 := hr
  obtain ⟨A', c', e, hc1, hc2, hb⟩ := hr2
  injection e with e1 e2 e3
  subst e1 e2 e3
  have key : RdB w (.slice (if j = 0 then A else A.map (·.add (0 * 1))) (j - 0) (j - 0)) (l.take j) ∧ (∀ k, (Value.slice (if j = 0 then A else A.map (·.add (0 * 1))) (j - 0) (j - 0)).ownBlock = some k → (Value.slice A l.length c).ownBlock = some k) := by
    have hl : (l.take j).length = j := by simp; omega
    refine ⟨⟨_, _, by rw [hl]; rfl, by omega, by simp only [maxLen] at hc2 ⊢; omega, fun hp => ?_⟩, fun k hk => ?_⟩
    · obtain ⟨g, p, rfl, hby⟩ := hb (by omega)
      refine ⟨g, p, ?_, hby.take j⟩
      rw [if_neg (by omega)]
      simp [Addr.add_lit]
    · by_cases hj0 : j = 0
      · rw [if_pos hj0] at hk; cases A with
        | none => simp [Value.ownBlock] at hk
        | some a => exact hk
      · obtain ⟨g, p, rfl, hby⟩ := hb (by omega)
        rw [if_neg hj0] at hk
        simpa [Addr.add_lit, Value.ownBlock] using hk
  unfold Oper.wp
  simp only [execOp, hx, hy, hz, Option.map_none, Option.map_some, hrun, Sem.run_bind, Sem.run_pure, Result.andThen_ok]
  exact hK _ _ (h _ key.1 key.2)
set_option maxRecDepth 100000 in
set_option maxHeartbeats 1600000 in
theorem expand_bad (w : World) (ks : Array Value) (iv : Value) (n : Int) (hn : n < 0 ∨ n > 8160) :
    Calls Tryd.prog 8 #[.agg ks, iv, .int .i64 n] w fun e w' => e = .returned (.tuple #[.slice none 0 0, .bool false]) ∧ Upd [] w w' := by
  by_cases h : n < 0
  · clear hn
    go_enter Tryd.func8, Tryd.ntmps8
    go_wp2
    go_ret2
    exact ⟨rfl, (Upd.refl _ w).alloc _⟩
  · have h2 : n > 8160 := by omega
    clear hn
    go_enter Tryd.func8, Tryd.ntmps8
    go_wp2
    go_ret2
    exact ⟨rfl, (Upd.refl _ w).alloc _⟩
set_option maxRecDepth 100000 in
set_option maxHeartbeats 6400000 in
theorem expand_ (w : World) (iv : Value) (key info : List (BitVec 8)) (n : Nat) (hkl : key.length = 32) (hi : RdB w iv info) (hil : info.length ≤ 90000) (hn : n ≤ 8160) (hg : Gl256 w) (hf : GlFirst256 w) :
    Calls Tryd.prog 8 #[.agg (key.map U8).toArray, iv, .int .i64 n] w fun e w' => ∃ v, e = .returned (.tuple #[v, .bool true]) ∧ NewB w w' v (expOf key info n) ∧ Upd [] w w' := by
  obtain ⟨A, c, e, hc1, hc2⟩ := hi.isSlice
  have HI := Lib.hid hi
  have HG := Lib.hid hg
  have HF := Lib.hid hf
  have HCL := Lib.hid (cblk_length key info)
  have HTL := Lib.hid (tblk_le key info)
  have HT1 := Lib.hid (tblk_length key info)
  have HTS : Hid (∀ k, tblk key info (k + 1) = hmac256 key (tblk key info k ++ (info ++ [BitVec.ofNat 8 (k + 1)]))) := fun k => rfl
  have HCS : Hid (∀ k, cblk key info (k + 1) = cblk key info k ++ tblk key info (k + 1)) := fun k => rfl
  have HEX : Hid (expOf key info n = (cblk key info ((n + 31) / 32)).take n) := rfl
  obtain ⟨K, hK⟩ : ∃ K, (n + 31) / 32 = K := ⟨_, rfl⟩
  rw [hK] at HEX
  have hK1 : 32 * K < n + 32 := by omega
  have hK2 : n ≤ 32 * K := by omega
  obtain ⟨m, hm⟩ : ∃ m, info.length = m := ⟨_, rfl⟩
  rw [hm] at e
  have HIL := Lib.hid hm
  obtain ⟨ck, hck⟩ : ∃ ck, (key.map U8).toArray = ck := ⟨_, rfl⟩
  have HRK : Hid (∀ W b T fr, W.heap[b]? = some (.cells ck T fr) → RdB W (.slice (some ⟨b, 0, none⟩) 32 32) key) := fun W b T fr hb => by
    rw [← hck] at hb; exact rd_new256 hb hkl
  rw [e, hck]
  have HIV : Hid (RdB w (.slice A m c) info) := by rw [← e]; exact hi
  obtain ⟨B0, hB0⟩ : ∃ B, w.heap.size = B := ⟨_, rfl⟩
  have HB0 := Lib.hid hB0
  have hadd : ∀ (y : BitVec 8) (t : TypeId) (w : World), (binOp .add t (U8 y) (.int .u8 1)).run Tryd.prog w = .ok (U8 (y + 1)) w := fun y t w => add_U8 (P := Tryd.prog) (w := w) t y 1
  have HADD := Lib.hid hadd
  clear hi hg hf hc1 hc2 hm hck hK e hB0 hadd
  go_enter Tryd.func8, Tryd.ntmps8
  go_wp2_with (with_reducible refine arm_box (by with_unfolding_all exact rfl) ?_)
  intro b3 w1 hb3 k3 hU1 hz1
  obtain ⟨B, hB⟩ : ∃ B, w1.heap.size = B := ⟨_, rfl⟩
  have hbB : b3 < B := by omega
  have hB0B : B0 ≤ B := by have := hU1.size; have := HB0.out; omega
  change w1.heap[b3]? = some (.cells ck 23 (0, 0)) at k3
  have hb1 : B ≤ w1.heap.size := by omega
  have HB := Lib.hid hB
  clear hb3 hz1 hB
  go_wp2_with (refine make_bytes rfl _ _ rfl B 0 (n + 32) _ _ rfl rfl rfl (by omega) (by omega) (by omega) hb1 ?_; intro w2 hO2 hU2)
  obtain ⟨v0, hv0⟩ : ∃ v, Value.slice (some ⟨w1.heap.size, 0, none⟩) 0 (n + 32) = v := ⟨_, rfl⟩
  rw [hv0] at hO2 ⊢
  have hV2 := hU1.trans hU2
  have hbw2 : B ≤ w2.heap.size := by have := hU2.size; omega
  have hk3 := hU2.heap k3 (by simp)
  have hcap0 : ∃ a cp, v0 = .slice a 0 cp ∧ n + 32 ≤ cp := ⟨_, _, hv0.symm, Nat.le_refl _⟩
  have HC0 := Lib.hid hcap0
  clear hv0 k3 hU1 hU2 hb1 hcap0
  go_wp2
  go_loopw [8, 9, 10] (fun ov lv iv' wr => ∃ q : Nat, q ≤ K ∧ iv' = U8 (BitVec.ofNat 8 (q + 1)) ∧ OwnB wr B ov (cblk key info q) ∧ RdB wr lv (tblk key info q) ∧ wr.heap[b3]? = some (.cells ck 23 (0, 0)) ∧ Upd [] w wr ∧ B ≤ wr.heap.size) (fun ov _ _ _ => 32 * K - slen ov)
  case atStart => exact ⟨0, by omega, rfl, hO2, RdB.nil _, hk3, hV2, hbw2⟩
  case round =>
    obtain ⟨q, hq, rfl, hO, hL, k3, hV, hbw⟩ := hrel
    have HBW := Lib.hid hbw
    clear hbw
    obtain ⟨oa, oc, oe⟩ := hO.isSlice
    rw [HCL.out q] at oe
    have HO := Lib.hid hO
    have HL := Lib.hid hL
    have HV := Lib.hid hV
    have hq' : (q : Int) ≤ (K : Int) := by omega
    clear hO hL hV
    subst oe
    obtain ⟨t, ht⟩ : ∃ t, 32 * q = t := ⟨_, rfl⟩
    rw [ht] at HO ⊢
    have HTQ := Lib.hid ht
    clear ht
    by_cases h : q < K
    · have htn : t < n := by have := HTQ.out; omega
      have htn' : (t : Int) < (n : Int) := by omega
      obtain ⟨y, hy⟩ : ∃ y, BitVec.ofNat 8 (q + 1) = y := ⟨_, rfl⟩
      obtain ⟨L, hL⟩ : ∃ L, tblk key info q = L := ⟨_, rfl⟩
      obtain ⟨N, hN⟩ : ∃ N, tblk key info (q + 1) = N := ⟨_, rfl⟩
      have hNe := HTS.out q
      have hCe := HCS.out q
      have hNl := HT1.out q
      have hLl := HTL.out q
      rw [hN] at hNe hCe hNl
      rw [hL, hy] at hNe
      rw [hL] at HL hLl
      rw [hy]
      obtain ⟨la, lc, le, _⟩ := HL.out.isSlice
      have hsN := szrow256 hNl
      have hoN := sameZ256 hNl
      have haN : ((N.map U8).toArray).all (·.oneCell') = true := by simp
      have HJ : Hid (∀ W G v1, Upd [] wr W → W.heap[G]? = some (.cells #[u9, .slice A m c, v1] 24 (0, 0)) → RdB W v1 [y] → Calls Tryd.prog 20 #[.slice (some ⟨G, 0, none⟩) 3 3] W fun e w' => ∃ v, e = .returned v ∧ OwnB w' W.heap.size v (L ++ (info ++ [y])) ∧ Upd [] W w') := fun W G v1 hW hk hr =>
        join3 W G u9 (.slice A m c) v1 L info [y] _ _ hk (HL.out.upd0 hW) (HIV.out.upd0 (HV.out.trans hW)) hr (by have := HIL.out; simp; omega)
      have HM : Hid (∀ W v, Upd [] wr W → RdB W v (L ++ (info ++ [y])) → Calls Tryd.prog 9 #[.slice (some ⟨b3, 0, none⟩) 32 32, v] W fun e w' => e = .returned (.agg (N.map U8).toArray) ∧ Upd [] W w') := fun W v hW hr => by
        have := mac256 W _ v key _ (HRK.out W b3 _ _ (hW.heap k3 (by simp))) hr (by have := HIL.out; simp; omega) (by omega) (HG.out.upd (HV.out.trans hW) (by simp)) (HF.out.upd (HV.out.trans hW) (by simp))
        rwa [← hNe] at this
      have HRN : Hid (∀ W b T fr, W.heap[b]? = some (.cells (N.map U8).toArray T fr) → RdB W (.slice (some ⟨b, 0, none⟩) 32 32) N) := fun W b T fr hb => rd_new256 hb hNl
      obtain ⟨cN, hcN⟩ : ∃ c, (N.map U8).toArray = c := ⟨_, rfl⟩
      rw [hcN] at HM HRN hsN hoN haN
      have HCE := Lib.hid hCe
      have HNL := Lib.hid hNl
      have HNN := Lib.hid hN
      have HY := Lib.hid hy
      have huc : u9.cells = #[u9] := HL.out.cells
      have HUC := Lib.hid huc
      clear hy hL hN hNe hCe hNl hcN le hLl huc
      go_upto_region 8 with (fail)
      go_cut [11] (fun s11 wx => ∃ b11, s11 = .pointer (some ⟨b11, 0, none⟩) ∧ wx.heap[b11]? = some (.cells cN 23 (0, 0)) ∧ Upd [] wr wx ∧ wr.heap.size ≤ b11)
      case first =>
        refine wp_region_orders [0, 1, 2, 3] (.step 4 (.step 5 (.step 6 (.step 7 (.step 8 (.step 9 .none .none) .none) (.step 8 (.step 7 (.step 9 .none .none) .none) .none)) (.step 8 (.step 6 (.step 7 (.step 9 .none .none) .none) .none) .none)) (.step 8 (.step 5 (.step 6 (.step 7 (.step 9 .none .none) .none) .none) .none) .none)) (.step 8 (.step 4 (.step 5 (.step 6 (.step 7 (.step 9 .none .none) .none) .none) .none) .none) .none)) (Upd [] wr) (by kernel_rfl) (by kernel_rfl) ((Upd.refl _ _).drew) ?_
        refine takeO_cons _ (.slice (some ⟨b3, 0, none⟩) 32 32) rfl rfl (fun w _ => by kernel_rfl) ?_
        refine takeO_cons _ _ rfl rfl (yields_move rfl) ?_
        refine takeO_cons _ _ rfl rfl (yields_move rfl) ?_
        refine takeO_cons _ _ rfl rfl (yields_move rfl) ?_
        refine takeO_nil (by simp [Ord.first]) ?_
        refine ordP_step _ (by simp only [List.getElem?_toArray, List.getElem?_cons_succ, List.getElem?_cons_zero]; rfl) ?_ ?_
        · with_reducible refine bs1 (y := y) (by with_unfolding_all exact rfl) ?_
          intro gx7 wx7 hbx7 hNx7 hUx7
          clear hbx7
          have hTx7 := (Upd.refl [] wr).drew.trans hUx7
          go_wp2_with fail
          refine ord_more (by simp [Ord.first]) (hTx7) ?_
          refine ordP_step _ (by simp only [List.getElem?_toArray, List.getElem?_cons_succ, List.getElem?_cons_zero]; rfl) ?_ ?_
          · with_reducible refine bs3 (by with_unfolding_all exact rfl) (by with_unfolding_all exact rfl) (by with_unfolding_all exact rfl) HUC.out rfl rfl ?_
            intro gx13 wx13 hbx13 hNx13 hUx13
            clear hbx13
            have hTx13 := hTx7.trans hUx13
            have hx13_one := hNx7.upd0 hUx13
            go_wp2_with fail
            refine ord_more (by simp [Ord.first]) (hTx13) ?_
            refine ordP_step _ (by simp only [List.getElem?_toArray, List.getElem?_cons_succ, List.getElem?_cons_zero]; rfl) ?_ ?_
            · go_wp2_with fail
              with_reducible refine (HJ.out _ _ _ hTx13 hNx13 hx13_one).mono ?_
              rintro e wx18 ⟨vx18, rfl, hNx18, hUx18⟩
              have hTx18 := hTx13.trans hUx18
              have hx18_one := hx13_one.upd0 hUx18
              have hx18_bs := hUx18.heap hNx13 (by simp)
              have hMx18 := hNx18.rd
              go_wp2_with fail
              refine ord_more (by simp [Ord.first]) (hTx18) ?_
              refine ordP_step _ (by simp only [List.getElem?_toArray, List.getElem?_cons_succ, List.getElem?_cons_zero]; rfl) ?_ ?_
              · go_wp2_with fail
                with_reducible refine (HM.out _ _ hTx18 hMx18).mono ?_
                rintro e wx22 ⟨rfl, hUx22⟩
                have hTx22 := hTx18.trans hUx22
                have hx22_one := hx18_one.upd0 hUx22
                have hx22_bs := hUx22.heap hx18_bs (by simp)
                have hx22_jn := hMx18.upd0 hUx22
                go_wp2_with fail
                refine ord_more (by simp [Ord.first]) (hTx22) ?_
                refine ordP_step _ (by simp only [List.getElem?_toArray, List.getElem?_cons_succ, List.getElem?_cons_zero]; rfl) ?_ ordP_none
                with_reducible refine arm_alloc (zero256 _) ?_
                intro gx23 wx23 hbx23 hNx23 hUx23 hzx23
                change wx23.heap[gx23]? = some (.cells (zrow8 32) 23 (0, 0)) at hNx23
                have hlx23 := (hTx22).size
                rw [hbx23] at hlx23
                clear hbx23 hzx23
                have hTx23 := hTx22.trans hUx23
                have hx23_one := hx22_one.upd0 hUx23
                have hx23_bs := hUx23.heap hx22_bs (by simp)
                have hx23_jn := hx22_jn.upd0 hUx23
                go_wp2_with fail
                refine ord_more (by simp [Ord.first]) (hTx23) ?_
                refine ordP_step _ (by simp only [List.getElem?_toArray, List.getElem?_cons_succ, List.getElem?_cons_zero]; rfl) ?_ ordP_none
                with_reducible refine arm_store (by with_unfolding_all exact rfl) (by with_unfolding_all exact rfl) hNx23 hsN hoN haN ?_
                intro wx24 hNx24 hXx24 hzx24
                have hTx24 := (hTx23).trans' hXx24 (fun i hm hi => by have := hlx23; simp at hm; omega)
                go_wp2_with fail
                refine ord_last (hTx24) ?_
                show Exit.then _ _ Exit.normal _ _
                go_wp2_with fail
                go_meet
                exact ⟨_, rfl, hNx24, hTx24, hlx23⟩
              · refine ordP_step _ (by simp only [List.getElem?_toArray, List.getElem?_cons_succ, List.getElem?_cons_zero]; rfl) ?_ ordP_none
                with_reducible refine arm_alloc (zero256 _) ?_
                intro gx19 wx19 hbx19 hNx19 hUx19 hzx19
                change wx19.heap[gx19]? = some (.cells (zrow8 32) 23 (0, 0)) at hNx19
                have hlx19 := (hTx18).size
                rw [hbx19] at hlx19
                clear hbx19 hzx19
                have hTx19 := hTx18.trans hUx19
                have hx19_one := hx18_one.upd0 hUx19
                have hx19_bs := hUx19.heap hx18_bs (by simp)
                have hx19_jn := hMx18.upd0 hUx19
                go_wp2_with fail
                refine ord_more (by simp [Ord.first]) (hTx19) ?_
                refine ordP_step _ (by simp only [List.getElem?_toArray, List.getElem?_cons_succ, List.getElem?_cons_zero]; rfl) ?_ ordP_none
                go_wp2_with fail
                with_reducible refine (HM.out _ _ hTx19 hx19_jn).mono ?_
                rintro e wx20 ⟨rfl, hUx20⟩
                have hTx20 := hTx19.trans hUx20
                have hx20_one := hx19_one.upd0 hUx20
                have hx20_bs := hUx20.heap hx19_bs (by simp)
                have hx20_jn := hx19_jn.upd0 hUx20
                have hx20_b9 := hUx20.heap hNx19 (by simp)
                go_wp2_with fail
                refine ord_more (by simp [Ord.first]) (hTx20) ?_
                refine ordP_step _ (by simp only [List.getElem?_toArray, List.getElem?_cons_succ, List.getElem?_cons_zero]; rfl) ?_ ordP_none
                with_reducible refine arm_store (by with_unfolding_all exact rfl) (by with_unfolding_all exact rfl) hx20_b9 hsN hoN haN ?_
                intro wx21 hNx21 hXx21 hzx21
                have hTx21 := (hTx20).trans' hXx21 (fun i hm hi => by have := hlx19; simp at hm; omega)
                go_wp2_with fail
                refine ord_last (hTx21) ?_
                show Exit.then _ _ Exit.normal _ _
                go_wp2_with fail
                go_meet
                exact ⟨_, rfl, hNx21, hTx21, hlx19⟩
            · refine ordP_step _ (by simp only [List.getElem?_toArray, List.getElem?_cons_succ, List.getElem?_cons_zero]; rfl) ?_ ordP_none
              with_reducible refine arm_alloc (zero256 _) ?_
              intro gx14 wx14 hbx14 hNx14 hUx14 hzx14
              change wx14.heap[gx14]? = some (.cells (zrow8 32) 23 (0, 0)) at hNx14
              have hlx14 := (hTx13).size
              rw [hbx14] at hlx14
              clear hbx14 hzx14
              have hTx14 := hTx13.trans hUx14
              have hx14_one := hx13_one.upd0 hUx14
              have hx14_bs := hUx14.heap hNx13 (by simp)
              go_wp2_with fail
              refine ord_more (by simp [Ord.first]) (hTx14) ?_
              refine ordP_step _ (by simp only [List.getElem?_toArray, List.getElem?_cons_succ, List.getElem?_cons_zero]; rfl) ?_ ordP_none
              go_wp2_with fail
              with_reducible refine (HJ.out _ _ _ hTx14 hx14_bs hx14_one).mono ?_
              rintro e wx15 ⟨vx15, rfl, hNx15, hUx15⟩
              have hTx15 := hTx14.trans hUx15
              have hx15_one := hx14_one.upd0 hUx15
              have hx15_bs := hUx15.heap hx14_bs (by simp)
              have hx15_b9 := hUx15.heap hNx14 (by simp)
              have hMx15 := hNx15.rd
              go_wp2_with fail
              refine ord_more (by simp [Ord.first]) (hTx15) ?_
              refine ordP_step _ (by simp only [List.getElem?_toArray, List.getElem?_cons_succ, List.getElem?_cons_zero]; rfl) ?_ ordP_none
              go_wp2_with fail
              with_reducible refine (HM.out _ _ hTx15 hMx15).mono ?_
              rintro e wx16 ⟨rfl, hUx16⟩
              have hTx16 := hTx15.trans hUx16
              have hx16_one := hx15_one.upd0 hUx16
              have hx16_bs := hUx16.heap hx15_bs (by simp)
              have hx16_b9 := hUx16.heap hx15_b9 (by simp)
              have hx16_jn := hMx15.upd0 hUx16
              go_wp2_with fail
              refine ord_more (by simp [Ord.first]) (hTx16) ?_
              refine ordP_step _ (by simp only [List.getElem?_toArray, List.getElem?_cons_succ, List.getElem?_cons_zero]; rfl) ?_ ordP_none
              with_reducible refine arm_store (by with_unfolding_all exact rfl) (by with_unfolding_all exact rfl) hx16_b9 hsN hoN haN ?_
              intro wx17 hNx17 hXx17 hzx17
              have hTx17 := (hTx16).trans' hXx17 (fun i hm hi => by have := hlx14; simp at hm; omega)
              go_wp2_with fail
              refine ord_last (hTx17) ?_
              show Exit.then _ _ Exit.normal _ _
              go_wp2_with fail
              go_meet
              exact ⟨_, rfl, hNx17, hTx17, hlx14⟩
          · refine ordP_step _ (by simp only [List.getElem?_toArray, List.getElem?_cons_succ, List.getElem?_cons_zero]; rfl) ?_ ordP_none
            with_reducible refine arm_alloc (zero256 _) ?_
            intro gx8 wx8 hbx8 hNx8 hUx8 hzx8
            change wx8.heap[gx8]? = some (.cells (zrow8 32) 23 (0, 0)) at hNx8
            have hlx8 := (hTx7).size
            rw [hbx8] at hlx8
            clear hbx8 hzx8
            have hTx8 := hTx7.trans hUx8
            have hx8_one := hNx7.upd0 hUx8
            go_wp2_with fail
            refine ord_more (by simp [Ord.first]) (hTx8) ?_
            refine ordP_step _ (by simp only [List.getElem?_toArray, List.getElem?_cons_succ, List.getElem?_cons_zero]; rfl) ?_ ordP_none
            with_reducible refine bs3 (by with_unfolding_all exact rfl) (by with_unfolding_all exact rfl) (by with_unfolding_all exact rfl) HUC.out rfl rfl ?_
            intro gx9 wx9 hbx9 hNx9 hUx9
            clear hbx9
            have hTx9 := hTx8.trans hUx9
            have hx9_one := hx8_one.upd0 hUx9
            have hx9_b9 := hUx9.heap hNx8 (by simp)
            go_wp2_with fail
            refine ord_more (by simp [Ord.first]) (hTx9) ?_
            refine ordP_step _ (by simp only [List.getElem?_toArray, List.getElem?_cons_succ, List.getElem?_cons_zero]; rfl) ?_ ordP_none
            go_wp2_with fail
            with_reducible refine (HJ.out _ _ _ hTx9 hNx9 hx9_one).mono ?_
            rintro e wx10 ⟨vx10, rfl, hNx10, hUx10⟩
            have hTx10 := hTx9.trans hUx10
            have hx10_one := hx9_one.upd0 hUx10
            have hx10_b9 := hUx10.heap hx9_b9 (by simp)
            have hx10_bs := hUx10.heap hNx9 (by simp)
            have hMx10 := hNx10.rd
            go_wp2_with fail
            refine ord_more (by simp [Ord.first]) (hTx10) ?_
            refine ordP_step _ (by simp only [List.getElem?_toArray, List.getElem?_cons_succ, List.getElem?_cons_zero]; rfl) ?_ ordP_none
            go_wp2_with fail
            with_reducible refine (HM.out _ _ hTx10 hMx10).mono ?_
            rintro e wx11 ⟨rfl, hUx11⟩
            have hTx11 := hTx10.trans hUx11
            have hx11_one := hx10_one.upd0 hUx11
            have hx11_b9 := hUx11.heap hx10_b9 (by simp)
            have hx11_bs := hUx11.heap hx10_bs (by simp)
            have hx11_jn := hMx10.upd0 hUx11
            go_wp2_with fail
            refine ord_more (by simp [Ord.first]) (hTx11) ?_
            refine ordP_step _ (by simp only [List.getElem?_toArray, List.getElem?_cons_succ, List.getElem?_cons_zero]; rfl) ?_ ordP_none
            with_reducible refine arm_store (by with_unfolding_all exact rfl) (by with_unfolding_all exact rfl) hx11_b9 hsN hoN haN ?_
            intro wx12 hNx12 hXx12 hzx12
            have hTx12 := (hTx11).trans' hXx12 (fun i hm hi => by have := hlx8; simp at hm; omega)
            go_wp2_with fail
            refine ord_last (hTx12) ?_
            show Exit.then _ _ Exit.normal _ _
            go_wp2_with fail
            go_meet
            exact ⟨_, rfl, hNx12, hTx12, hlx8⟩
        · refine ordP_step _ (by simp only [List.getElem?_toArray, List.getElem?_cons_succ, List.getElem?_cons_zero]; rfl) ?_ ordP_none
          with_reducible refine arm_alloc (zero256 _) ?_
          intro gx1 wx1 hbx1 hNx1 hUx1 hzx1
          change wx1.heap[gx1]? = some (.cells (zrow8 32) 23 (0, 0)) at hNx1
          have hlx1 := ((Upd.refl [] wr).drew).size
          rw [hbx1] at hlx1
          clear hbx1 hzx1
          have hTx1 := (Upd.refl [] wr).drew.trans hUx1
          go_wp2_with fail
          refine ord_more (by simp [Ord.first]) (hTx1) ?_
          refine ordP_step _ (by simp only [List.getElem?_toArray, List.getElem?_cons_succ, List.getElem?_cons_zero]; rfl) ?_ ordP_none
          with_reducible refine bs1 (y := y) (by with_unfolding_all exact rfl) ?_
          intro gx2 wx2 hbx2 hNx2 hUx2
          clear hbx2
          have hTx2 := hTx1.trans hUx2
          have hx2_b9 := hUx2.heap hNx1 (by simp)
          go_wp2_with fail
          refine ord_more (by simp [Ord.first]) (hTx2) ?_
          refine ordP_step _ (by simp only [List.getElem?_toArray, List.getElem?_cons_succ, List.getElem?_cons_zero]; rfl) ?_ ordP_none
          with_reducible refine bs3 (by with_unfolding_all exact rfl) (by with_unfolding_all exact rfl) (by with_unfolding_all exact rfl) HUC.out rfl rfl ?_
          intro gx3 wx3 hbx3 hNx3 hUx3
          clear hbx3
          have hTx3 := hTx2.trans hUx3
          have hx3_b9 := hUx3.heap hx2_b9 (by simp)
          have hx3_one := hNx2.upd0 hUx3
          go_wp2_with fail
          refine ord_more (by simp [Ord.first]) (hTx3) ?_
          refine ordP_step _ (by simp only [List.getElem?_toArray, List.getElem?_cons_succ, List.getElem?_cons_zero]; rfl) ?_ ordP_none
          go_wp2_with fail
          with_reducible refine (HJ.out _ _ _ hTx3 hNx3 hx3_one).mono ?_
          rintro e wx4 ⟨vx4, rfl, hNx4, hUx4⟩
          have hTx4 := hTx3.trans hUx4
          have hx4_b9 := hUx4.heap hx3_b9 (by simp)
          have hx4_one := hx3_one.upd0 hUx4
          have hx4_bs := hUx4.heap hNx3 (by simp)
          have hMx4 := hNx4.rd
          go_wp2_with fail
          refine ord_more (by simp [Ord.first]) (hTx4) ?_
          refine ordP_step _ (by simp only [List.getElem?_toArray, List.getElem?_cons_succ, List.getElem?_cons_zero]; rfl) ?_ ordP_none
          go_wp2_with fail
          with_reducible refine (HM.out _ _ hTx4 hMx4).mono ?_
          rintro e wx5 ⟨rfl, hUx5⟩
          have hTx5 := hTx4.trans hUx5
          have hx5_b9 := hUx5.heap hx4_b9 (by simp)
          have hx5_one := hx4_one.upd0 hUx5
          have hx5_bs := hUx5.heap hx4_bs (by simp)
          have hx5_jn := hMx4.upd0 hUx5
          go_wp2_with fail
          refine ord_more (by simp [Ord.first]) (hTx5) ?_
          refine ordP_step _ (by simp only [List.getElem?_toArray, List.getElem?_cons_succ, List.getElem?_cons_zero]; rfl) ?_ ordP_none
          with_reducible refine arm_store (by with_unfolding_all exact rfl) (by with_unfolding_all exact rfl) hx5_b9 hsN hoN haN ?_
          intro wx6 hNx6 hXx6 hzx6
          have hTx6 := (hTx5).trans' hXx6 (fun i hm hi => by have := hlx1; simp at hm; omega)
          go_wp2_with fail
          refine ord_last (hTx6) ?_
          show Exit.then _ _ Exit.normal _ _
          go_wp2_with fail
          go_meet
          exact ⟨_, rfl, hNx6, hTx6, hlx1⟩
      case rest =>
        obtain ⟨b11, rfl, k11, hVx, hb11⟩ := hcut
        have hrN := HRN.out _ _ _ _ k11
        have HOx := Lib.hid (HO.out.upd0 hVx)
        have k3x := hVx.heap k3 (by simp)
        have hVxs := hVx.size
        have HVx := Lib.hid (HV.out.trans hVx)
        have hbx : B ≤ wc.heap.size := by have := HBW.out; have := hVxs; omega
        have hlen : (cblk key info q).length + N.length ≤ 140737488355328 := by have := HCL.out q; have := HNL.out; omega
        have hadd := HADD.out y
        have K11 := Lib.hid k11
        clear k11 hVx
        go_wp2_with (refine append_rd rfl _ _ rfl B (.slice oa t oc) _ rfl HOx.out (.slice (some ⟨b11, 0, none⟩) 32 32) N rfl hrN hlen hbx ?_; intro v5 w5 hO5 hO5' hU5 hG5)
        have hnb : ∀ b, (b < B ∨ wr.heap.size ≤ b) → b ∉ (Value.slice oa t oc).ownBlock.toList := fun b hb hm => by have h1 := HO.out.lt b (by simpa using hm); omega
        have hrN5 : RdB w5 (.slice (some ⟨b11, 0, none⟩) 32 32) N := HRN.out _ _ _ _ (hU5.heap K11.out (hnb b11 (.inr hb11)))
        have k35 := hU5.heap k3x (hnb b3 (.inl hbB))
        have hl5 : slen v5 = t + 32 := by
          obtain ⟨a5, c5, e5⟩ := hO5.isSlice
          rw [e5]
          show (cblk key info q ++ N).length = t + 32
          rw [List.length_append, HCL.out, HNL.out, HTQ.out]
        have HL5 := Lib.hid hl5
        clear hl5
        go_roundw
        case rel => exact ⟨q + 1, by omega, by rw [← HY.out]; exact congrArg U8 (by rw [← BitVec.ofNat_add]), by rw [HCE.out]; exact hO5, HNN.out ▸ hrN5, k35, HVx.out.row hU5 (fun g hg => by have := (HOx.out.lt g hg).1; have := HB0.out; omega), by have := hU5.size; omega⟩
        case measure => show 32 * K - slen v5 < 32 * K - t; rw [HL5.out]; have := HTQ.out; omega
    · obtain rfl : q = K := by omega
      have htn' : ¬ ((t : Int) < (n : Int)) := by have := HTQ.out; omega
      have hoc : RdB wr (.slice oa t oc) (cblk key info q) := HO.out.rd
      have hnt : n ≤ t := by have := HTQ.out; omega
      have hlt := HO.out.lt
      go_wp2_with (with_reducible refine cap_bytes (by with_unfolding_all exact rfl) (by with_unfolding_all exact rfl) (by with_unfolding_all exact rfl) hoc hnt ?_)
      intro u hru hub
      go_wp2
      go_ret2
      exact ⟨_, rfl, ⟨by rw [HEX.out]; exact hru, fun k hk => by have := (hlt k (hub k hk)).1; have := HB0.out; omega⟩, HV.out⟩
end Go.Proofs.YtgpieipflidkpaaDoor
