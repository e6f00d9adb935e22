/-
  The law MerkleGrows: a tree that grows has behind each leaf the root of the list so far.
-/
import Derived.Test.YtdfoffheolbokaaDoorTreeAll
import Derived.Test.YtdfoffheolbokaaDoorEqHash
import Derived.Test.YtdfoffheolbokaaDoorLawProves16
namespace Go.Proofs.YtdfoffheolbokaaDoor
open Go Go.RowKit Go.Proofs
theorem arm_load_mid_g {P : Program} {ops : Array Oper} {rest : List Oper} {a : Act} {w : World} {Q : Exit → Act → World → Prop} {dst : Option Tmp} {ty type : TypeId} {pos : String} {after : Array Edge} {gd : Nat × Bool} {x : Operand} {g k : Nat} {cs : List Value} {d : TypeDesc}
    (hw : Region.wanted ⟨dst, .load ty x, type, pos, after, some gd⟩ (yielded ops a.tmps) = true) (hx : a.eval x = .pointer (some ⟨g, k, none⟩)) (hr : w.rangeAt g k cs) (hu : P.underlying ty = some d) (hd : d.isRow = true) (hi : (P.info? ty).map (·.size) = some cs.length)
    (h : wpList P ops Q rest (a.put dst (.agg cs.toArray)) w) : wpList P ops Q (⟨dst, .load ty x, type, pos, after, some gd⟩ :: rest) a w := by
  refine wpl_wanted hw fun K hK => ?_
  unfold Oper.wp execOp
  simp only [hx, Instr.loadAt, Instr.sureAddr, Sem.run_bind, Sem.run_pure, Result.andThen_ok, run_loadVar_mid w g k ty cs d hr hu hd hi]
  exact hK _ _ h
def bridge0 (ls : List H8) (k : Nat) : List H8 := if k = 0 then [] else bridgeOf ls k
set_option maxRecDepth 100000 in
set_option maxHeartbeats 12800000 in
theorem law_grows16 (w : World) (v : Value) (ls : List H8) (hv : RdH w v ls) (hg : Gl256 w) (hf : GlFirst256 w) :
    Calls Tryd.prog 8 #[v] w fun e w' => e = .returned (.bool true) ∧ Upd [] w w' := by
  obtain ⟨A, c, e, hc1, hc2⟩ := hv.isSlice
  obtain ⟨n, hn⟩ : ∃ n, ls.length = n := ⟨_, rfl⟩
  rw [hn] at e hc1
  by_cases hbig : 40 < n
  · have h1 : (n : Int) > 40 := by omega
    rw [e]
    clear hv hg hf hn e hbig
    go_enter Tryd.func8, Tryd.ntmps8
    go_wp2_with (fail)
    go_ret
    exact ⟨rfl, Upd.refl _ w⟩
  have hn40 : (n : Int) ≤ 40 := by omega
  have hb1 : decide ((n : Int) > 40) = false := by simp; omega
  have hRl : (rootOf ls).length = 32 := rootOf_length ls hv.1
  have HNW : Hid (∀ W, Calls Tryd.prog 11 #[] W fun e w' => ∃ b, e = .returned (.pointer (some ⟨b, 0, none⟩)) ∧ b = W.heap.size ∧ TreeAt w' b (.slice none 0 0) [] ∧ Upd [] W w') := new_
  have HRT : Hid (∀ W, Upd [] w W → Calls Tryd.prog 18 #[v] W fun e w' => e = .returned (.tuple #[.agg ((rootOf ls).map U8).toArray, .bool true]) ∧ Upd [] W w') := fun W hW => mroot_ W v ls (hv.upd0 hW) (by omega) (hg.upd hW (by simp)) (hf.upd hW (by simp))
  have HCON : Hid (∀ (k : Nat), k ≤ n → ∀ W, Upd [] w W → Calls Tryd.prog 26 #[.slice A n c, .int .i64 k] W fun e w' => ∃ u, e = .returned (.tuple #[u, .bool true]) ∧ RdH w' u (bridge0 ls k) ∧ Upd [] W w') := fun k hk W hW => by
    by_cases h0 : k = 0
    · subst h0
      refine (consistency_zero W A n c (by omega)).mono fun e w' h => ⟨_, h.1, ?_, h.2⟩
      unfold bridge0
      rw [if_pos rfl]
      exact RdH.nil w'
    · rw [← e]
      refine (consistency_ W v ls k (hv.upd0 hW) (by omega) (by omega) (by omega) (hg.upd hW (by simp)) (hf.upd hW (by simp))).mono fun e w' h => ?_
      obtain ⟨u, h1, h2, h3⟩ := h
      refine ⟨u, h1, ?_, h3⟩
      unfold bridge0
      rw [if_neg h0]
      exact h2.rd
  have HLC : Hid (∀ (k : Nat), k ≤ n → ∀ W u, Upd [] w W → RdH W u (bridge0 ls k) → Calls Tryd.prog 27 #[.int .i64 k, .int .i64 n, .agg ((rootOf (ls.take k)).map U8).toArray, .agg ((rootOf ls).map U8).toArray, u] W fun e w' => e = .returned (.bool true) ∧ Upd [] W w') := fun k hk W u hW hu => by
    have hl : (rootOf (ls.take k)).length = 32 := rootOf_length _ (fun x hx => hv.1 x (List.mem_of_mem_take hx))
    by_cases h0 : k = 0
    · subst h0
      unfold bridge0 at hu
      rw [if_pos rfl] at hu
      have := checkC_zero W (rootOf (ls.take 0)) ((rootOf ls).map U8).toArray n _ [] hl (by omega) hu (hg.upd hW (by simp)) (hf.upd hW (by simp))
      rw [List.take_zero, rootOf_nil] at this ⊢
      rwa [show (([] : List H8).length == 0 && sha256 [] == sha256 []) = true by simp] at this
    · unfold bridge0 at hu
      rw [if_neg h0] at hu
      have hb := bridgeOf_le ls k (by omega) (by omega)
      have := checkC_ W (rootOf (ls.take k)) (rootOf ls) k n u _ hl hRl (by omega) hk (by omega) hu (by omega) (hg.upd hW (by simp)) (hf.upd hW (by simp))
      have ht := proves_cons ls k (by omega) (by omega)
      rw [hn] at ht
      rwa [ht] at this
  have HOLD : Hid (∀ (m : Nat), m ≤ n → ∃ B, (∀ W, (Instr.sliceAt 25 (.slice A n c) none (some (.int .i64 m)) none).run Tryd.prog W = .ok (.slice B m c) W) ∧ (rootOf (ls.take m)).length = 32 ∧ ∀ W, Upd [] w W → Calls Tryd.prog 18 #[.slice B m c] W fun e w' => e = .returned (.tuple #[.agg ((rootOf (ls.take m)).map U8).toArray, .bool true]) ∧ Upd [] W w') := fun m hm => by
    rw [e] at hv
    obtain ⟨B, hB, hvB⟩ := hv.cut2 0 m none (some (.int .i64 m)) (.inl ⟨rfl, rfl⟩) (.inr rfl) (by omega) hm
    simp only [Nat.sub_zero, List.drop_zero] at hB hvB
    exact ⟨B, hB, rootOf_length _ hvB.1, fun W hW => mroot_ W _ _ (hvB.upd0 hW) (by simp; omega) (hg.upd hW (by simp)) (hf.upd hW (by simp))⟩
  have HTR : Hid (∀ W bt pv k, k ≤ n → Upd [] w W → TreeAt W bt pv (ls.take k) → Calls Tryd.prog 13 #[.pointer (some ⟨bt, 0, none⟩)] W fun e w' => e = .returned (.agg ((rootOf (ls.take k)).map U8).toArray) ∧ Upd [] W w') := fun W bt pv k hk hW hT => troot_ W bt pv _ hT (by simp; omega) (hg.upd hW (by simp)) (hf.upd hW (by simp))
  have HTS : Hid (∀ W bt pv k, k ≤ n → TreeAt W bt pv (ls.take k) → Calls Tryd.prog 14 #[.pointer (some ⟨bt, 0, none⟩)] W fun e w' => e = .returned (.int .i64 k) ∧ Upd [] W w') := fun W bt pv k hk hT => by
    have := size_ W bt pv _ hT
    rwa [show (ls.take k).length = k by rw [List.length_take]; omega] at this
  have hgl := gl256_lt hg
  have hfl := hf.lt
  have HTA : Hid (∀ W bt pv k x, k < n → w.heap.size ≤ bt → x.length = 32 → Upd [] w W → TreeAt W bt pv (ls.take k) → Calls Tryd.prog 15 #[.pointer (some ⟨bt, 0, none⟩), .agg (x.map U8).toArray] W fun e w' => Appended W bt pv (ls.take k) x e w') := fun W bt pv k x hk hb hx hW hT => tappend_ W bt pv _ x hT hx (by simp; omega) (by omega) (by omega) (hg.upd hW (by simp)) (hf.upd hW (by simp))
  have HEL : Hid (∀ (i : Nat) (hi : i < n), ∃ g p x, A = some ⟨g, p, none⟩ ∧ (∃ h : i < ls.length, ls[i] = x) ∧ x.length = 32 ∧ w.rangeAt g (p + i * 32) (x.map U8)) := fun i hi => by
    rw [e] at hv
    obtain ⟨g, p, c', e', _, _, _⟩ := hv.at (by omega)
    injection e' with e1 e2 e3
    subst e1
    exact ⟨g, p, _, rfl, ⟨by omega, rfl⟩, hv.1 _ (List.getElem_mem _), hv.elem i (by omega)⟩
  have HLN : Hid (ls.length = n) := hn
  have hsR := szrow hRl
  have hoR := sameZ hRl
  have haR := oneAll (rootOf ls)
  obtain ⟨cR, hcR⟩ : ∃ c, ((rootOf ls).map U8).toArray = c := ⟨_, rfl⟩
  rw [hcR] at HRT HLC hsR hoR haR
  rw [e] at HRT ⊢
  have hgd := guard_h32
  clear hv hg hf hn hbig e hRl hcR hgl hfl
  go_enter Tryd.func8, Tryd.ntmps8
  go_wp2_with (fail)
  with_reducible refine (HNW.out _).mono ?_
  rintro e w1 ⟨bt, rfl, hbt, hT1, hU1⟩
  have HBT := Lib.hid hbt
  clear hbt
  go_wp2_with (fail)
  with_reducible refine (HRT.out _ hU1).mono ?_
  rintro e w2 ⟨rfl, hU2⟩
  have hT2 := hT1.upd0 hU2
  go_wp2_with (with_reducible refine arm_alloc (zero_h32 _) ?_)
  intro b4 w3 hb4 k3 hU3 hz3
  change w3.heap[b4]? = some (.cells (zrow8 32) 27 (0, 0)) at k3
  go_wp2_with (with_reducible refine arm_store (by with_unfolding_all exact rfl) (by with_unfolding_all exact rfl) k3 hsR hoR haR ?_)
  intro w4 k4 hX4 hz4
  have hX4' := hU3.fresh hb4 hX4
  have hT4 := hT2.upd0 hX4'
  have hV4 := (hU1.trans hU2).trans hX4'
  have hne : bt ≠ b4 := by have := hT2.lt.1; omega
  have hbt4 : w.heap.size ≤ bt := by have := HBT.out; omega
  have HT4 := Lib.hid hT4
  have HV4 := Lib.hid hV4
  have HK4 := Lib.hid k4
  clear hT1 hU1 hU2 hT2 hb4 k3 hU3 hz3 k4 hX4 hz4 hX4' hT4 hV4
  go_wp2_with (fail)
  go_loopw [6] (fun iv wr => ∃ (k : Nat) (pv : Value), k ≤ n + 1 ∧ iv = .int .i64 k ∧ TreeAt wr bt pv (ls.take k) ∧ (∀ j, pv.ownBlock = some j → j ≠ b4) ∧ wr.heap[b4]? = some (.cells cR 27 (0, 0)) ∧ Upd [] w wr) (fun iv _ => n + 1 - (intOf iv).toNat)
  case atStart => exact ⟨0, .slice none 0 0, by omega, rfl, HT4.out, (fun j hj => by cases hj), HK4.out, HV4.out⟩
  case round =>
    obtain ⟨k, pv, hk, rfl, hT, hS, k4, hU⟩ := hrel
    have HT := Lib.hid hT
    have HS := Lib.hid hS
    have HK := Lib.hid k4
    have HU := Lib.hid hU
    obtain ⟨wo, rfl⟩ : ∃ wo : World, wo = wr := ⟨_, rfl⟩
    clear hT hS k4 hU
    by_cases h : k ≤ n
    · have h' : (k : Int) ≤ (n : Int) := by omega
      obtain ⟨B, hsli, hrl, hrt⟩ := HOLD.out k h
      have HSLI := Lib.hid hsli
      have HPR := Lib.hid hrt
      have HCN := Lib.hid (HCON.out k h)
      have hs := szrow hrl
      have ho := sameZ hrl
      have ha := oneAll (rootOf (ls.take k))
      have hq := fun W => neq_h32 (rootOf (ls.take k)) (rootOf (ls.take k)) hrl hrl W
      rw [show (rootOf (ls.take k) != rootOf (ls.take k)) = false by simp] at hq
      have HLK := Lib.hid (HLC.out k h)
      have HTRk : Hid (∀ W pv, Upd [] w W → TreeAt W bt pv (ls.take k) → Calls Tryd.prog 13 #[.pointer (some ⟨bt, 0, none⟩)] W fun e w' => e = .returned (.agg ((rootOf (ls.take k)).map U8).toArray) ∧ Upd [] W w') := fun W pv hW hT => HTR.out W bt pv k h hW hT
      obtain ⟨cK, hcK⟩ : ∃ c, ((rootOf (ls.take k)).map U8).toArray = c := ⟨_, rfl⟩
      rw [hcK] at HPR hs ho ha hq HLK HTRk
      clear hsli hrl hrt hcK
      go_wp2_with (with_reducible refine arm_slice (by with_unfolding_all exact rfl) (by with_unfolding_all exact rfl) (by with_unfolding_all exact rfl) (by with_unfolding_all exact rfl) HSLI.out ?_)
      with_reducible refine (HPR.out _ HU.out).mono ?_
      rintro e w5 ⟨rfl, hU5⟩
      go_wp2_with (with_reducible refine arm_alloc (zero_h32 _) ?_)
      intro b7 w6 hb7 k6 hU6 hz6
      change w6.heap[b7]? = some (.cells (zrow8 32) 27 (0, 0)) at k6
      go_wp2_with (with_reducible refine arm_store (by with_unfolding_all exact rfl) (by with_unfolding_all exact rfl) k6 hs ho ha ?_)
      intro w7 k7 hX7 hz7
      have hT7 := hU6.fresh hb7 hX7
      have hV7 := (HU.out.trans hU5).trans hT7
      have hW7 := hU5.trans hT7
      clear hb7 k6 hU6 hz6 hX7 hz7 hU5 hT7
      go_wp2_with (fail)
      with_reducible refine (HCN.out _ hV7).mono ?_
      rintro e w8 ⟨u, rfl, hu8, hU8⟩
      have k78 := hU8.heap k7 (by simp)
      have hW8 := hW7.trans hU8
      have hV8 := hV7.trans hU8
      have k48 := hW8.heap HK.out (by simp)
      have hT8 := HT.out.upd0 hW8
      have HLK8 : Hid (∀ W, Upd [] w8 W → Calls Tryd.prog 27 #[.int .i64 k, .int .i64 n, .agg cK, .agg cR, u] W fun e w' => e = .returned (.bool true) ∧ Upd [] W w') := fun W hW => HLK.out W u (hV8.trans hW) (hu8.upd0 hW)
      have HTR8 : Hid (∀ W, Upd [] w8 W → Calls Tryd.prog 13 #[.pointer (some ⟨bt, 0, none⟩)] W fun e w' => e = .returned (.agg cK) ∧ Upd [] W w') := fun W hW => HTRk.out W pv (hV8.trans hW) (hT8.upd0 hW)
      have HTS8 : Hid (∀ W, Upd [] w8 W → Calls Tryd.prog 14 #[.pointer (some ⟨bt, 0, none⟩)] W fun e w' => e = .returned (.int .i64 k) ∧ Upd [] W w') := fun W hW => HTS.out W bt pv k h (hT8.upd0 hW)
      have HQ7 : Hid (∀ W, Upd [] w8 W → ∃ t fr, W.heap[b7]? = some (.cells cK t fr)) := fun W hW => ⟨_, _, hW.heap k78 (by simp)⟩
      have HQ4 : Hid (∀ W, Upd [] w8 W → ∃ t fr, W.heap[b4]? = some (.cells cR t fr)) := fun W hW => ⟨_, _, hW.heap k48 (by simp)⟩
      have HW8 := Lib.hid hW8
      have HV8 := Lib.hid hV8
      clear k7 k78 k48 hW7 hW8 hV7 hV8 hT8 hu8 hU8 HPR HCN HLK HTRk
      go_upto_region 12 with (fail)
      refine wp_region_quiet_all (Upd [] w8) (by kernel_rfl) (by kernel_rfl) (Upd.refl _ _).drew ?_
      repeat (first
        | go_big_quiet_skip
        | (refine wpQuiet_valK rfl (quiet_load_row 27 _ rfl b7 rfl _ HQ7.out Tryd.underlying27 rfl hs) (fun K hK => ?_); go_simp; refine hK _ ?_; clear hK K)
        | (refine wpQuiet_valK rfl (quiet_load_row 27 _ rfl b4 rfl _ HQ4.out Tryd.underlying27 rfl hsR) (fun K hK => ?_); go_simp; refine hK _ ?_; clear hK K)
        | go_big_quiet_step ((intro hw2; first
            | rfl
            | ((with_reducible refine (HTS8.out _ hw2).mono ?_); exact fun e w' h => ⟨h.1, hw2.trans h.2⟩)
            | ((with_reducible refine (HTR8.out _ hw2).mono ?_); exact fun e w' h => ⟨h.1, hw2.trans h.2⟩)
            | ((with_reducible refine (HLK8.out _ hw2).mono ?_); exact fun e w' h => ⟨h.1, hw2.trans h.2⟩)
            )))
      refine wpQuiet_nil ?_
      intro w9 hU9
      have hW9 := HW8.out.trans hU9
      have hV9 := HV8.out.trans hU9
      have HW9 := Lib.hid hW9
      have HV9 := Lib.hid hV9
      clear hU9 hW9 hV9 HQ7 HQ4 HTS8 HTR8 HLK8 hs ho ha hq
      by_cases hlt : k < n
      · have hlt' : (k : Int) < (n : Int) := by omega
        have hltd : decide ((k : Int) < (n : Int)) = true := by simp; omega
        have hltn : decide (k < n) = true := by simp; omega
        obtain ⟨g0, p0, x, rfl, hxe, hxl, hel⟩ := HEL.out k hlt
        have hel9 : w9.rangeAt g0 (p0 + k * 32) (x.map U8) := fun i v hi => HV9.out.cell (hel i v hi) (by simp)
        have hsx := szlist hxl
        have hT9 := HT.out.upd0 HW9.out
        have HAP := Lib.hid (HTA.out w9 bt pv k x hlt hbt4 hxl HV9.out hT9)
        have HXE := Lib.hid hxe
        obtain ⟨lx, hlx⟩ : ∃ l, x.map U8 = l := ⟨_, rfl⟩
        rw [hlx] at hel9 hsx HAP
        clear hxe hxl hel hT9 hlx
        go_wp2_with (with_reducible refine arm_load_mid_g (g := g0) (k := p0 + k * 32) (by with_unfolding_all exact rfl) (by with_unfolding_all exact rfl) hel9 Tryd.underlying27 rfl hsx ?_)
        with_reducible refine HAP.out.mono ?_
        rintro e w10 ⟨rfl, pv', hT10, hB10, hU10⟩
        have k410 := hU10.heap (HW9.out.heap HK.out (by simp)) (fun hm => by
          rcases List.mem_cons.1 hm with hm | hm
          · exact hne hm.symm
          · exact HS.out b4 (by simpa using hm) rfl)
        have hV10 : Upd [] w w10 := HV9.out.trans' hU10 (fun i hm hi => by
          rcases List.mem_cons.1 hm with hm | hm
          · omega
          · have := HT.out.lt.2 i (by simpa using hm); omega)
        have hS10 : ∀ j, pv'.ownBlock = some j → j ≠ b4 := fun j hj => by
          rcases hB10 with hB | ⟨i, hB, hi⟩
          · exact HS.out j (by rw [← hB]; exact hj)
          · rw [hB] at hj; injection hj with hj; have := lt_of_heap (HW9.out.heap HK.out (by simp)); omega
        have hT11 : TreeAt w10 bt pv' (ls.take (k + 1)) := by
          obtain ⟨hkl, hxe⟩ := HXE.out
          rw [List.take_succ_eq_append_getElem hkl, hxe]; exact hT10
        have HT11 := Lib.hid hT11
        have HS10 := Lib.hid hS10
        have HV10 := Lib.hid hV10
        have HK10 := Lib.hid k410
        clear hT10 hB10 hU10 k410 hV10 hS10 hT11 HAP hel9
        go_wp2_with (fail)
        go_roundw
        case rel => exact ⟨k + 1, pv', by omega, by go_num, HT11.out, HS10.out, HK10.out, HV10.out⟩
        case measure => simp [intOf]; omega
      · have hlt' : ¬ ((k : Int) < (n : Int)) := by omega
        have hltd : decide ((k : Int) < (n : Int)) = false := by simp; omega
        have hltn : decide (k < n) = false := by simp; omega
        have hT9 := HT.out.upd0 HW9.out
        have hT11 : TreeAt w9 bt pv (ls.take (k + 1)) := by
          rw [List.take_of_length_le (by rw [HLN.out]; omega)]
          rwa [List.take_of_length_le (by rw [HLN.out]; omega)] at hT9
        have HT11 := Lib.hid hT11
        have k49 := HW9.out.heap HK.out (by simp)
        have HK9 := Lib.hid k49
        clear hT9 hT11 k49
        go_wp2_with (fail)
        go_roundw
        case rel => exact ⟨k + 1, pv, by omega, by go_num, HT11.out, HS.out, HK9.out, HV9.out⟩
        case measure => simp [intOf]; omega
    · have h' : ¬ ((k : Int) ≤ (n : Int)) := by omega
      have hd : decide ((k : Int) ≤ (n : Int)) = false := by simp; omega
      go_wp2_with (fail)
      go_ret
      exact ⟨rfl, HU.out⟩
end Go.Proofs.YtdfoffheolbokaaDoor
