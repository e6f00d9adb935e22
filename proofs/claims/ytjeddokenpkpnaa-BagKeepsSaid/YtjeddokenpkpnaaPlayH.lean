/-
  BagKeeps: the law.
-/
import Derived.Test.YtjeddokenpkpnaaPlayG
namespace Go.Proofs.Ytjeddokenpkpnaa
open Go Go.RowKit Go.Proofs Go.Maps
structure WfS (ss : List Stp) : Prop where
  x : ∀ s ∈ ss, wfI s.x
set_option maxRecDepth 100000 in
set_option maxHeartbeats 6400000 in
theorem law_keeps (w : World) (v : Value) (ss : List Stp) (h : RdS w v ss) (hx : ∀ s ∈ ss, wfI s.x) (hn : ss.length ≤ maxLen) (hb : ∀ s ∈ ss, s.m.b.length ≤ maxLen) :
    Calls Try.prog 5 #[v] w fun e w' => e = .returned (.bool true) ∧ Upd [] w w' := by
  have HB := Lib.hid hb
  have HX := Lib.hid hx
  have HM := Lib.hid hn
  have H0 := Lib.hid h
  obtain ⟨A, c, eA, _⟩ := h.row.isSlice
  rw [List.length_map] at eA
  obtain ⟨N, hN⟩ : ∃ n, ss.length = n := ⟨_, rfl⟩
  rw [hN] at eA
  subst eA
  have HN := Lib.hid hN
  clear h hb hx hn hN
  have hbp := built_play
  go_enter Try.func5, Try.ntmps5
  go_wp2_with (fail)
  refine (fits_ _ _ ss H0.out HM.out HB.out).mono ?_
  rintro e w0 ⟨b, rfl, hfit, hU0⟩
  have HF := Lib.hid hfit
  have HU0 := Lib.hid hU0
  clear hfit hU0
  cases b with
  | false =>
    go_wp2_with (fail)
    go_ret
    exact ⟨rfl, HU0.out⟩
  | true =>
    have HFT := Lib.hid (HF.out rfl)
    have H := Lib.hid (H0.out.upd0 HU0.out)
    clear HF
    go_wp2_with (fail)
    refine (new_ _).mono ?_
    rintro e w1 ⟨bb, bm, D0, rfl, hB1, hU1⟩
    have HB1 := Lib.hid hB1
    have HU1 := Lib.hid hU1
    have HLO1 := Lib.hid hU1.size
    clear hB1 hU1
    go_wp2_with (fail)
    refine (holds_ _).mono ?_
    rintro e w2 ⟨rfl, hU2⟩
    have HB2 := Lib.hid (HB1.out.upd0 hU2)
    have HLO2 : Hid (w0.heap.size ≤ w2.heap.size) := Nat.le_trans HLO1.out hU2.size
    have HU2 := Lib.hid (HU1.out.trans hU2)
    clear hU2
    go_wp2_with (first
      | (with_reducible refine arm_build0 hbp ?_)
      | (with_reducible refine arm_box (by with_unfolding_all exact rfl) ?_))
    intro bp w3 hb3 k3 hU3 hz3
    change w3.heap[bp]? = some (.cells (playC (.slice none 0 0) (.slice none 0 0) 0) 58 (0, 0)) at k3
    have HPB3 : Hid (PBs w3 w0.heap.size bp bb bm 0) := ⟨_, _, [], [], [], D0, ⟨PlayAt.start k3 (by have := HLO2.out; omega), HB2.out.upd0 hU3, rfl⟩, Nat.le_refl _⟩
    have HU3 := Lib.hid (HU2.out.trans hU3)
    have HNI : Hid (N ≤ 200) := by show N ≤ 200; rw [← HN.out]; exact HFT.out.len
    have hni : (N : Int) ≤ 200 := by have := HNI.out; omega
    clear hb3 k3 hU3 hz3 hbp
    go_wp2_with (fail)
    go_loopw [5] (fun iv wr => ∃ i : Nat, iv = .int .i64 i ∧ i ≤ N ∧ PBs wr w0.heap.size bp bb bm (i + times (ss.take i)) ∧ Upd [] w0 wr) (fun iv _ => N - (intOf iv).toNat)
    case atStart => exact ⟨0, rfl, Nat.zero_le _, HPB3.out, HU3.out⟩
    case round =>
      obtain ⟨i, rfl, hi, hP, hU⟩ := hrel
      have HP := Lib.hid hP
      have HU := Lib.hid hU
      have HI : Hid (i ≤ N) := hi
      clear hP hU hi
      by_cases hlt : i < N
      · have hli : (i : Int) < (N : Int) := by omega
        have hil : i < ss.length := by rw [HN.out]; exact hlt
        obtain ⟨s, hs⟩ : ∃ s, ss[i] = s := ⟨_, rfl⟩
        have HSM : Hid (s ∈ ss) := by show s ∈ ss; rw [← hs]; exact List.getElem_mem hil
        obtain ⟨g, p, c', e, _⟩ := RdA.at H0.out.row (by rw [List.length_map, HN.out]; omega)
        injection e with e e1 e2
        clear e1 e2
        subst e
        have hel := RdA.elem H0.out.row i (by rw [List.length_map]; exact hil)
        simp only [List.getElem_map, hs] at hel
        have hel := rangeAt_upd hel (HU0.out.trans HU.out) (by simp)
        obtain ⟨k, hk⟩ : ∃ q, p + i * 7 = q := ⟨_, rfl⟩
        rw [hk] at hel
        have hvo : s.m.v.oneCell' = true := by obtain ⟨a, q, e, _⟩ := (H0.out.bodies s HSM.out).isSlice; rw [e]; rfl
        have HSB : Hid (RdB wr s.m.v s.m.b) := (H0.out.bodies s HSM.out).upd0 (HU0.out.trans HU.out)
        have HXS : Hid (wfI s.x) := HX.out s HSM.out
        have HTM : Hid (times (ss.take (i + 1)) = times (ss.take i) + s.n.toNat) := by show times (ss.take (i + 1)) = times (ss.take i) + s.n.toNat; rw [times_snoc ss i hil, hs]
        have HTL : Hid (times (ss.take (i + 1)) ≤ 9000) := Nat.le_trans (times_le ss (i + 1)) HFT.out.all
        have hz6 := size_stepL s
        have hz7 : (Try.prog.info? 52).map (·.size) = some s.cells.length := size_step7
        have ho6 := one_step s hvo
        have hNL : s.n ≤ 9000 := HFT.out.some s HSM.out
        have HNL := Lib.hid hNL
        obtain ⟨m, hm⟩ : ∃ m, i + times (ss.take i) = m := ⟨_, rfl⟩
        rw [hm] at HP
        have HMM : Hid (m + s.n.toNat ≤ 9199) := by show m + s.n.toNat ≤ 9199; have := HTM.out; have := HTL.out; have := HNI.out; omega
        have HMN : Hid (∀ q, q ≤ s.n.toNat → m + q + 1 ≤ i + 1 + times (ss.take (i + 1))) := fun q hq => by have := HTM.out; omega
        have HLW : Hid (w0.heap.size ≤ wr.heap.size) := by obtain ⟨_, _, _, _, _, _, h1, _⟩ := HP.out; have h2 := h1.play.low; have h3 := lt_of_heap h1.play.cells; show w0.heap.size ≤ wr.heap.size; omega
        clear hs hil hm hvo hNL
        go_wp2_with (first
          | (with_reducible refine arm_index_g (g := g) (i := i) (by kernel_rfl) (by with_unfolding_all exact rfl) (by with_unfolding_all exact rfl) rfl Try.underlying41 elem_steps size_step7 hlt hk ?_)
          | (with_reducible refine arm_load_mid_g (by kernel_rfl) (by with_unfolding_all exact rfl) hel Try.underlying52 rfl hz7 ?_)
          | (with_reducible refine arm_alloc (zero_step _) ?_))
        intro b6 w6 hb6 k6 hU6 hz6'
        change w6.heap[b6]? = some (.cells (Stp.mk 0 ⟨0, 0, 0, .slice none 0 0, []⟩ 0 0).cells.toArray 52 (0, 0)) at k6
        have HB6 : Hid (wr.heap.size = b6) := hb6
        have HU6 := Lib.hid hU6
        clear hb6 hU6 hz6'
        go_wp2_with (with_reducible refine arm_store (by with_unfolding_all exact rfl) (by with_unfolding_all exact rfl) k6 hz6 (by with_unfolding_all exact rfl) ho6 ?_)
        intro w7 k7 hX7 hz7
        have HUr : Hid (Upd [] wr w7) := HU6.out.trans' hX7 (fun k hm hl => by have := List.mem_singleton.1 hm; have := HB6.out; omega)
        have HP7 := Lib.hid (HP.out.upd0 HUr.out)
        have HU7 := Lib.hid (HU.out.trans HUr.out)
        have HL7 : Hid (w0.heap.size ≤ w7.heap.size) := Nat.le_trans HLW.out HUr.out.size
        have HSB7 := Lib.hid (HSB.out.upd0 HUr.out)
        have HK7 := Lib.hid k7
        clear k6 hX7 hz7 hel ho6 hz6
        obtain ⟨kd, hkd⟩ : ∃ kd, s.kind = kd := ⟨_, rfl⟩
        have ck : w7.cell? ⟨b6, 0, none⟩ = some (.int .i64 kd) := by rw [cell_of_row _ _ _ _ _ _ k7, ← hkd]; rfl
        clear hkd k7 hk
        by_cases h1 : kd = 1
        · subst h1
          have hrm : w7.rangeAt b6 1 (msgC s.m.id s.m.fr s.m.to s.m.v).toList := range_of_row (cur := s.cells) HK7.out 1 _ ⟨[.int .i64 s.kind], [.int .i64 s.x, .int .i64 s.n], rfl, rfl⟩
          have hs4 : (Try.prog.info? 32).map (·.size) = some (msgC s.m.id s.m.fr s.m.to s.m.v).toList.length := size_msg4
          go_wp2_with (with_reducible refine arm_load_mid_g (by kernel_rfl) (by with_unfolding_all exact rfl) hrm Try.underlying32 rfl hs4 ?_)
          refine (put_pb _ w0.heap.size bp bb bm m HP7.out HL7.out (by have := HMM.out; omega) s.m.id s.m.fr s.m.to s.m.v s.m.b HSB7.out).mono ?_
          rintro e w8 ⟨rfl, hP8, hK8⟩
          have HP8 := Lib.hid hP8
          have HU8 : Hid (Upd [] w0 w8) := hK8.1 w0 (Nat.le_refl _) HU7.out
          clear hP8 hK8 ck hrm hs4
          obtain ⟨va, vt, al, tk, es, D, hpb, hal⟩ := HP8.out
          have HPB := Lib.hid hpb
          have hei : (es.length : Int) ≤ 4096 := by have := hpb.bag.room; omega
          have HCH : Hid (∀ W, Upd [] w8 W → W.cell? ⟨bp, 2, none⟩ = some (.int .i64 es.length)) := fun W hW => by rw [cell_of_row _ _ _ _ _ _ (hW.heap HPB.out.play.cells (by simp))]; rfl
          have HLE : Hid (∀ W, Upd [] w8 W → Calls Try.prog 13 #[.pointer (some ⟨bb, 0, none⟩)] W fun e w' => e = .returned (.int .i64 es.length) ∧ Upd [] W w') := fun W hW => (len_ W _ bb bm _ es D (HPB.out.bag.upd0 hW)).mono fun e w' h => ⟨h.1, by rw [h.2]; exact Upd.refl _ _⟩
          have HRO : Hid (∀ W, Upd [] w8 W → Calls Try.prog 18 #[.pointer (some ⟨bb, 0, none⟩)] W fun e w' => e = .returned (.int .i64 (4096 - (es.length : Int))) ∧ Upd [] W w') := fun W hW => (room_ W _ bb bm _ es D (HPB.out.bag.upd0 hW)).mono fun e w' h => ⟨h.1, by rw [h.2]; exact Upd.refl _ _⟩
          clear hpb hal
          go_upto_region 25 with (fail)
          go_simp
          refine wp_region_quiet_all (Upd [] w8) (by kernel_rfl) (by kernel_rfl) (Upd.refl _ _).drew ?_
          repeat (first
            | go_big_quiet_skip
            | (refine wpQuiet_valK rfl (quiet_of_yields (yields_cell (p := ⟨bp, 2, none⟩) rfl HCH.out Try.underlying3 rfl)) (fun K hK => ?_); go_simp; refine hK _ ?_; clear hK K)
            | go_big_quiet_step ((intro hw2; first
                | rfl
                | ((with_reducible refine (HLE.out _ hw2).mono ?_); exact fun e w' h => ⟨h.1, hw2.trans h.2⟩)
                | ((with_reducible refine (HRO.out _ hw2).mono ?_); exact fun e w' h => ⟨h.1, hw2.trans h.2⟩))))
          refine wpQuiet_nil ?_
          intro wz hUz
          have HUz := Lib.hid hUz
          clear hUz HCH HLE HRO hei
          go_wp2_with (fail)
          go_roundw
          case rel => exact ⟨i + 1, by go_num, by omega, (HP8.out.upd0 HUz.out).mono (by have := HMN.out 0 (Nat.zero_le _); omega), HU8.out.trans HUz.out⟩
          case measure => simp [intOf]; omega
        · by_cases h3 : kd = 3
          · subst h3
            have e1 : ((3 : Int) == 1) = false := rfl
            have c5 : w7.cell? ⟨b6, 5, none⟩ = some (.int .i64 s.x) := by rw [cell_of_row _ _ _ _ _ _ HK7.out]; rfl
            go_wp2_with (fail)
            refine (take_pb _ w0.heap.size bp bb bm m HP7.out s.x HXS.out).mono ?_
            rintro e w8 ⟨rfl, hP8, hK8⟩
            have HP8 := Lib.hid hP8
            have HU8 : Hid (Upd [] w0 w8) := hK8.1 w0 (Nat.le_refl _) HU7.out
            clear hP8 hK8 ck c5 e1 h1
            obtain ⟨va, vt, al, tk, es, D, hpb, hal⟩ := HP8.out
            have HPB := Lib.hid hpb
            have hei : (es.length : Int) ≤ 4096 := by have := hpb.bag.room; omega
            have HCH : Hid (∀ W, Upd [] w8 W → W.cell? ⟨bp, 2, none⟩ = some (.int .i64 es.length)) := fun W hW => by rw [cell_of_row _ _ _ _ _ _ (hW.heap HPB.out.play.cells (by simp))]; rfl
            have HLE : Hid (∀ W, Upd [] w8 W → Calls Try.prog 13 #[.pointer (some ⟨bb, 0, none⟩)] W fun e w' => e = .returned (.int .i64 es.length) ∧ Upd [] W w') := fun W hW => (len_ W _ bb bm _ es D (HPB.out.bag.upd0 hW)).mono fun e w' h => ⟨h.1, by rw [h.2]; exact Upd.refl _ _⟩
            have HRO : Hid (∀ W, Upd [] w8 W → Calls Try.prog 18 #[.pointer (some ⟨bb, 0, none⟩)] W fun e w' => e = .returned (.int .i64 (4096 - (es.length : Int))) ∧ Upd [] W w') := fun W hW => (room_ W _ bb bm _ es D (HPB.out.bag.upd0 hW)).mono fun e w' h => ⟨h.1, by rw [h.2]; exact Upd.refl _ _⟩
            clear hpb hal
            go_upto_region 25 with (fail)
            go_simp
            refine wp_region_quiet_all (Upd [] w8) (by kernel_rfl) (by kernel_rfl) (Upd.refl _ _).drew ?_
            repeat (first
              | go_big_quiet_skip
              | (refine wpQuiet_valK rfl (quiet_of_yields (yields_cell (p := ⟨bp, 2, none⟩) rfl HCH.out Try.underlying3 rfl)) (fun K hK => ?_); go_simp; refine hK _ ?_; clear hK K)
              | go_big_quiet_step ((intro hw2; first
                  | rfl
                  | ((with_reducible refine (HLE.out _ hw2).mono ?_); exact fun e w' h => ⟨h.1, hw2.trans h.2⟩)
                  | ((with_reducible refine (HRO.out _ hw2).mono ?_); exact fun e w' h => ⟨h.1, hw2.trans h.2⟩))))
            refine wpQuiet_nil ?_
            intro wz hUz
            have HUz := Lib.hid hUz
            clear hUz HCH HLE HRO hei
            go_wp2_with (fail)
            go_roundw
            case rel => exact ⟨i + 1, by go_num, by omega, (HP8.out.upd0 HUz.out).mono (by have := HMN.out 0 (Nat.zero_le _); omega), HU8.out.trans HUz.out⟩
            case measure => simp [intOf]; omega
          · by_cases h4 : kd = 4
            · subst h4
              clear h1 h3
              go_wp2_with (fail)
              obtain ⟨sn, hsn⟩ : ∃ n, s.n = n := ⟨_, rfl⟩
              have HSN := Lib.hid hsn
              clear hsn
              clear ck
              go_loopw [7, 8] (fun ok kv wq => ∃ q : Nat, kv = .int .i64 q ∧ ok = .bool true ∧ q ≤ sn.toNat ∧ PBs wq w0.heap.size bp bb bm (m + q) ∧ Upd [] w0 wq ∧ wq.heap[b6]? = some (.cells s.cells.toArray 52 (0, 0))) (fun _ kv _ => sn.toNat - (intOf kv).toNat)
              case atStart => exact ⟨0, rfl, rfl, Nat.zero_le _, HP7.out, HU7.out, HK7.out⟩
              case round =>
                obtain ⟨q, rfl, rfl, hq, hPq, hUq, hkq⟩ := hrel
                have HPq := Lib.hid hPq
                have HUq := Lib.hid hUq
                have HKq := Lib.hid hkq
                have HQ : Hid (q ≤ sn.toNat) := hq
                have hsn9 : sn ≤ 9000 := by rw [← HSN.out]; exact HNL.out
                have c5 : wr.cell? ⟨b6, 5, none⟩ = some (.int .i64 s.x) := by rw [cell_of_row _ _ _ _ _ _ hkq]; rfl
                have c6 : wr.cell? ⟨b6, 6, none⟩ = some (.int .i64 sn) := by rw [cell_of_row _ _ _ _ _ _ hkq, ← HSN.out]; rfl
                have hlq : Hid (w0.heap.size ≤ wr.heap.size) := hUq.size
                clear hPq hUq hkq hq
                by_cases hqn : (q : Int) < sn
                · have hq9 : (q : Int) ≤ 9000 := by omega
                  have hqd : decide ((q : Int) < sn) = true := by simp; exact hqn
                  go_wp2_with (fail)
                  refine (double_pb _ w0.heap.size bp bb bm (m + q) HPq.out hlq.out (by have := HMM.out; have := HSN.out; omega) s.x HXS.out).mono ?_
                  rintro e w8 ⟨rfl, hP8, hK8⟩
                  have HP8 := Lib.hid hP8
                  have HU8 : Hid (Upd [] w0 w8) := hK8.1 w0 (Nat.le_refl _) HUq.out
                  have HK8 := Lib.hid (hK8.2 _ _ _ HKq.out)
                  clear hP8 hK8 c5 c6
                  go_wp2_with (fail)
                  go_roundw
                  case rel => exact ⟨q + 1, by go_num, rfl, by omega, HP8.out, HU8.out, HK8.out⟩
                  case measure => simp [intOf]; omega
                · have hqd : decide ((q : Int) < sn) = false := by simp; omega
                  have HU8 : Hid (Upd [] w0 wr) := HUq.out
                  clear c5 hqn
                  obtain ⟨va, vt, al, tk, es, D, hpb, hal⟩ := HPq.out
                  have HPB := Lib.hid hpb
                  have hei : (es.length : Int) ≤ 4096 := by have := hpb.bag.room; omega
                  have HCH : Hid (∀ W, Upd [] wr W → W.cell? ⟨bp, 2, none⟩ = some (.int .i64 es.length)) := fun W hW => by rw [cell_of_row _ _ _ _ _ _ (hW.heap HPB.out.play.cells (by simp))]; rfl
                  have HLE : Hid (∀ W, Upd [] wr W → Calls Try.prog 13 #[.pointer (some ⟨bb, 0, none⟩)] W fun e w' => e = .returned (.int .i64 es.length) ∧ Upd [] W w') := fun W hW => (len_ W _ bb bm _ es D (HPB.out.bag.upd0 hW)).mono fun e w' h => ⟨h.1, by rw [h.2]; exact Upd.refl _ _⟩
                  have HRO : Hid (∀ W, Upd [] wr W → Calls Try.prog 18 #[.pointer (some ⟨bb, 0, none⟩)] W fun e w' => e = .returned (.int .i64 (4096 - (es.length : Int))) ∧ Upd [] W w') := fun W hW => (room_ W _ bb bm _ es D (HPB.out.bag.upd0 hW)).mono fun e w' h => ⟨h.1, by rw [h.2]; exact Upd.refl _ _⟩
                  clear hpb hal
                  go_upto_region 25 with (fail)
                  go_simp
                  refine wp_region_quiet_all (Upd [] wr) (by kernel_rfl) (by kernel_rfl) (Upd.refl _ _).drew ?_
                  repeat (first
                    | go_big_quiet_skip
                    | (refine wpQuiet_valK rfl (quiet_of_yields (yields_cell (p := ⟨bp, 2, none⟩) rfl HCH.out Try.underlying3 rfl)) (fun K hK => ?_); go_simp; refine hK _ ?_; clear hK K)
                    | go_big_quiet_step ((intro hw2; first
                        | rfl
                        | ((with_reducible refine (HLE.out _ hw2).mono ?_); exact fun e w' h => ⟨h.1, hw2.trans h.2⟩)
                        | ((with_reducible refine (HRO.out _ hw2).mono ?_); exact fun e w' h => ⟨h.1, hw2.trans h.2⟩))))
                  refine wpQuiet_nil ?_
                  intro wz hUz
                  have HUz := Lib.hid hUz
                  clear hUz HCH HLE HRO hei
                  go_wp2_with (fail)
                  go_roundw
                  case rel => exact ⟨i + 1, by go_num, by omega, (HPq.out.upd0 HUz.out).mono (by have := HMN.out q (by rw [HSN.out]; exact HQ.out); omega), HU8.out.trans HUz.out⟩
                  case measure => simp [intOf]; omega
            · by_cases h2 : kd = 2
              · subst h2
                clear h1 h3 h4
                have c5 : w7.cell? ⟨b6, 5, none⟩ = some (.int .i64 s.x) := by rw [cell_of_row _ _ _ _ _ _ HK7.out]; rfl
                obtain ⟨va, vt, al, tk, es, D, hpb, hal⟩ := HP7.out
                have HPB := Lib.hid hpb
                have HAL := Lib.hid hal
                clear hpb hal
                cases hy : findE es s.x with
                | none =>
                  have HTN := Lib.hid (HPB.out.thereNone hy)
                  go_wp2_with (fail)
                  refine (get_none _ _ bb bm al.length es D HPB.out.bag s.x HXS.out hy).mono ?_
                  rintro e w8 ⟨v8, rfl, hO8, hU8⟩
                  have hvo : v8.oneCell' = true := by obtain ⟨a, q, e⟩ := hO8.isSlice; rw [e]; rfl
                  clear hO8
                  have HU8 := Lib.hid hU8
                  clear hU8 ck c5
                  have c5 : w8.cell? ⟨b6, 5, none⟩ = some (.int .i64 s.x) := by rw [cell_of_row _ _ _ _ _ _ (HU8.out.heap HK7.out (by simp))]; rfl
                  go_wp2_with (with_reducible refine arm_alloc (zero_msg _) ?_)
                  intro b9 w9 hb9 k9 hU9 hz9
                  change w9.heap[b9]? = some (.cells (msgC 0 0 0 (.slice none 0 0)) 32 (0, 0)) at k9
                  have HB9 : Hid (w8.heap.size = b9) := hb9
                  have HU9 := Lib.hid hU9
                  have hz := size_msg 0 0 0 v8
                  have ho := one_msg 0 0 0 hvo
                  clear hb9 hz9 hU9
                  go_wp2_with (with_reducible refine arm_store (by with_unfolding_all exact rfl) (by with_unfolding_all exact rfl) k9 hz (by with_unfolding_all exact rfl) ho ?_)
                  intro wa ka hXa hza
                  have HUA : Hid (Upd [] w8 wa) := HU9.out.trans' hXa (fun k hm hl => by have := List.mem_singleton.1 hm; have := HB9.out; omega)
                  have HUB : Hid (Upd [] w7 wa) := HU8.out.trans HUA.out
                  have HC5 : Hid (∀ W, Upd [] wa W → W.cell? ⟨b6, 5, none⟩ = some (.int .i64 s.x)) := fun W hW => by rw [cell_of_row _ _ _ _ _ _ ((HUB.out.trans hW).heap HK7.out (by simp))]; rfl
                  have HTH : Hid (∀ W, Upd [] wa W → Calls Try.prog 26 #[.pointer (some ⟨bp, 0, none⟩), .int .i64 s.x] W fun e w' => e = .returned (.bool false) ∧ Upd [] W w') := fun W hW => by
                    have := there_ W _ bp va vt es.length al tk (HPB.out.play.upd0 (HUB.out.trans hW)) s.x HXS.out
                    rw [HTN.out] at this
                    exact this
                  clear k9 ka hXa hza hz ho hvo c5 hy
                  go_upto_region 24 with (fail)
                  go_simp
                  refine wp_region_quiet_all (Upd [] wa) (by kernel_rfl) (by kernel_rfl) (Upd.refl _ _).drew ?_
                  repeat (first
                    | go_big_quiet_skip
                    | (refine wpQuiet_valK rfl (quiet_of_yields (yields_cell (p := ⟨b6, 5, none⟩) rfl HC5.out Try.underlying3 rfl)) (fun K hK => ?_); go_simp; refine hK _ ?_; clear hK K)
                    | go_big_quiet_step ((intro hw2; first
                        | rfl
                        | ((with_reducible refine (HTH.out _ hw2).mono ?_); exact fun e w' h => ⟨h.1, hw2.trans h.2⟩))))
                  refine wpQuiet_nil ?_
                  intro wb hUb
                  have HPb := Lib.hid (HP7.out.upd0 (HUB.out.trans hUb))
                  have HUb := Lib.hid (HU7.out.trans (HUB.out.trans hUb))
                  clear hUb HC5 HTH HPB HAL HTN
                  clear va vt al tk es D
                  obtain ⟨va, vt, al, tk, es, D, hpb, hal⟩ := HPb.out
                  have HPB := Lib.hid hpb
                  have hei : (es.length : Int) ≤ 4096 := by have := hpb.bag.room; omega
                  have HCH : Hid (∀ W, Upd [] wb W → W.cell? ⟨bp, 2, none⟩ = some (.int .i64 es.length)) := fun W hW => by rw [cell_of_row _ _ _ _ _ _ (hW.heap HPB.out.play.cells (by simp))]; rfl
                  have HLE : Hid (∀ W, Upd [] wb W → Calls Try.prog 13 #[.pointer (some ⟨bb, 0, none⟩)] W fun e w' => e = .returned (.int .i64 es.length) ∧ Upd [] W w') := fun W hW => (len_ W _ bb bm _ es D (HPB.out.bag.upd0 hW)).mono fun e w' h => ⟨h.1, by rw [h.2]; exact Upd.refl _ _⟩
                  have HRO : Hid (∀ W, Upd [] wb W → Calls Try.prog 18 #[.pointer (some ⟨bb, 0, none⟩)] W fun e w' => e = .returned (.int .i64 (4096 - (es.length : Int))) ∧ Upd [] W w') := fun W hW => (room_ W _ bb bm _ es D (HPB.out.bag.upd0 hW)).mono fun e w' h => ⟨h.1, by rw [h.2]; exact Upd.refl _ _⟩
                  clear hpb hal
                  go_upto_region 25 with (fail)
                  go_simp
                  refine wp_region_quiet_all (Upd [] wb) (by kernel_rfl) (by kernel_rfl) (Upd.refl _ _).drew ?_
                  repeat (first
                    | go_big_quiet_skip
                    | (refine wpQuiet_valK rfl (quiet_of_yields (yields_cell (p := ⟨bp, 2, none⟩) rfl HCH.out Try.underlying3 rfl)) (fun K hK => ?_); go_simp; refine hK _ ?_; clear hK K)
                    | go_big_quiet_step ((intro hw2; first
                        | rfl
                        | ((with_reducible refine (HLE.out _ hw2).mono ?_); exact fun e w' h => ⟨h.1, hw2.trans h.2⟩)
                        | ((with_reducible refine (HRO.out _ hw2).mono ?_); exact fun e w' h => ⟨h.1, hw2.trans h.2⟩))))
                  refine wpQuiet_nil ?_
                  intro wz hUz
                  have HUz := Lib.hid hUz
                  clear hUz HCH HLE HRO hei
                  go_wp2_with (fail)
                  go_roundw
                  case rel => exact ⟨i + 1, by go_num, by omega, (HPb.out.upd0 HUz.out).mono (by have := HMN.out 0 (Nat.zero_le _); omega), HUb.out.trans HUz.out⟩
                  case measure => simp [intOf]; omega
                | some y =>
                  obtain ⟨hth, j, hjl, hxj, hjy⟩ := HPB.out.thereSome hy
                  have HTN := Lib.hid hth
                  have HJY := Lib.hid hjy
                  have HXJ := Lib.hid hxj
                  have hym : y ∈ es := (findE_some hy).1
                  have HYB : Hid (y.b.length ≤ 1024) := HPB.out.bag.short y hym
                  clear hth hjy hxj
                  go_wp2_with (fail)
                  refine (get_ _ _ bb bm al.length es D HPB.out.bag s.x HXS.out y hy).mono ?_
                  rintro e w8 ⟨v8, rfl, hO8, hU8⟩
                  have HO8 := Lib.hid hO8
                  have HU8 := Lib.hid hU8
                  have hvo : v8.oneCell' = true := by obtain ⟨a, q, e⟩ := hO8.isSlice; rw [e]; rfl
                  have hsy := size_msg y.id y.fr y.to v8
                  have hoy := one_msg y.id y.fr y.to hvo
                  clear hU8 ck c5 hO8 hvo
                  have c5 : w8.cell? ⟨b6, 5, none⟩ = some (.int .i64 s.x) := by rw [cell_of_row _ _ _ _ _ _ (HU8.out.heap HK7.out (by simp))]; rfl
                  go_wp2_with (with_reducible refine arm_alloc (zero_msg _) ?_)
                  intro b9 w9 hb9 k9 hU9 hz9
                  change w9.heap[b9]? = some (.cells (msgC 0 0 0 (.slice none 0 0)) 32 (0, 0)) at k9
                  have HB9 : Hid (w8.heap.size = b9) := hb9
                  have HU9 := Lib.hid hU9
                  clear hb9 hz9 hU9
                  go_wp2_with (with_reducible refine arm_store (by with_unfolding_all exact rfl) (by with_unfolding_all exact rfl) k9 hsy (by with_unfolding_all exact rfl) hoy ?_)
                  intro wa ka hXa hza
                  have HUA : Hid (Upd [] w8 wa) := HU9.out.trans' hXa (fun k hm hl => by have := List.mem_singleton.1 hm; have := HB9.out; omega)
                  have HUB : Hid (Upd [] w7 wa) := HU8.out.trans HUA.out
                  have HKA := Lib.hid ka
                  have HPA := Lib.hid (HPB.out.upd0 HUB.out)
                  obtain ⟨n, hn⟩ : ∃ n, al.length = n := ⟨_, rfl⟩
                  have HNN := Lib.hid hn
                  obtain ⟨z, hz⟩ : ∃ z, al[j] = z := ⟨_, rfl⟩
                  have HZY : Hid (z.core = y.core) := by show z.core = y.core; rw [← hz]; exact HJY.out
                  have hzm : z ∈ al := by rw [← hz]; exact List.getElem_mem hjl
                  have HZ : Hid (RdB wa z.v z.b ∧ z.b.length ≤ 1024) := ⟨(HPA.out.play.all.bodies z hzm).rd, HPA.out.play.short z hzm⟩
                  obtain ⟨gl, cl, curl, eL, rL⟩ := OwnA.at HPA.out.play.all.row (by rw [List.length_map]; omega)
                  rw [List.length_map, HNN.out] at eL
                  have hel : wa.rangeAt gl (0 + j * 4) z.cells.toList := by
                    have h1 := HPA.out.play.all.row
                    rw [eL] at h1
                    have h2 := OwnA.elem h1 j (by rw [List.length_map]; exact hjl)
                    simp only [List.getElem_map] at h2
                    rw [Nat.zero_add, ← hz]; exact h2
                  have HCA : Hid (∀ W, Upd [] wa W → W.cell? ⟨bp, 0, none⟩ = some (.slice (some ⟨gl, 0, none⟩) n cl)) := fun W hW => by rw [cell_of_row _ _ _ _ _ _ (hW.heap HPA.out.play.cells (by simp)), ← eL]; rfl
                  have HQ7 : Hid (∀ W, Upd [] wa W → ∃ t fr, W.heap[b9]? = some (.cells (msgC y.id y.fr y.to v8) t fr)) := fun W hW => ⟨_, _, hW.heap HKA.out (by simp)⟩
                  have HQL : Hid (∀ W, Upd [] wa W → W.rangeAt gl (0 + j * 4) z.cells.toList) := fun W hW => rangeAt_upd hel hW (by simp)
                  have HSM2 : Hid (∀ W, Upd [] wa W → Calls Try.prog 12 #[.agg (msgC y.id y.fr y.to v8), .agg z.cells.toList.toArray] W fun e w' => e = .returned (.bool true) ∧ Upd [] W w') := fun W hW => by
                    have := sameM_ W ⟨y.id, y.fr, y.to, v8, y.b⟩ z ((HO8.out.upd0 (HUA.out.trans hW)).rd) (HZ.out.1.upd0 hW) (by have := HYB.out; show y.b.length ≤ 1000000; omega) (by have := HZ.out.2; omega)
                    rw [(eqCore_iff ⟨y.id, y.fr, y.to, v8, y.b⟩ z).2 HZY.out.symm] at this
                    exact this
                  have HC5 : Hid (∀ W, Upd [] wa W → W.cell? ⟨b6, 5, none⟩ = some (.int .i64 ((j : Int) + 1))) := fun W hW => by rw [cell_of_row _ _ _ _ _ _ ((HUB.out.trans hW).heap HK7.out (by simp)), ← HXJ.out]; rfl
                  have HTH : Hid (∀ W, Upd [] wa W → Calls Try.prog 26 #[.pointer (some ⟨bp, 0, none⟩), .int .i64 ((j : Int) + 1)] W fun e w' => e = .returned (.bool true) ∧ Upd [] W w') := fun W hW => by
                    have := there_ W _ bp va vt es.length al tk (HPB.out.play.upd0 (HUB.out.trans hW)) s.x HXS.out
                    rw [HTN.out, HXJ.out] at this
                    exact this
                  have hszz := size_msgL z
                  have hjn : j < n := by omega
                  have hji : (j : Int) ≤ 9300 := by have := HPA.out.play.small; omega
                  obtain ⟨kz, hkz⟩ : ∃ q, 0 + j * 4 = q := ⟨_, rfl⟩
                  rw [hkz] at HQL
                  have HKZ := Lib.hid hkz
                  clear ka hXa hza c5 hy hel eL rL hz hzm hkz hym hn HJY hjl
                  go_upto_region 24 with (fail)
                  go_simp
                  refine wp_region_quiet_all (Upd [] wa) (by kernel_rfl) (by kernel_rfl) (Upd.refl _ _).drew ?_
                  repeat (first
                    | go_big_quiet_skip
                    | (refine wpQuiet_valK rfl (quiet_of_yields (yields_cell (p := ⟨b6, 5, none⟩) rfl HC5.out Try.underlying3 rfl)) (fun K hK => ?_); go_simp; refine hK _ ?_; clear hK K)
                    | (refine wpQuiet_valK rfl (quiet_of_yields (yields_cell (p := ⟨bp, 0, none⟩) rfl HCA.out Try.underlying33 rfl)) (fun K hK => ?_); go_simp; refine hK _ ?_; clear hK K)
                    | (refine wpQuiet_valK rfl (quiet_load_row 32 _ rfl b9 rfl _ HQ7.out Try.underlying32 rfl hsy) (fun K hK => ?_); go_simp; refine hK _ ?_; clear hK K)
                    | (refine wpQuiet_valK rfl (quiet_load_mid 32 _ rfl gl kz rfl _ HQL.out Try.underlying32 rfl hszz) (fun K hK => ?_); go_simp; refine hK _ ?_; clear hK K)
                    | (refine wpQuiet_valK rfl (quiet_of_yields (yields_index Try.underlying33 elem_msgs size_msg4 (g := gl) rfl rfl rfl hjn HKZ.out)) (fun K hK => ?_); go_simp; refine hK _ ?_; clear hK K)
                    | go_big_quiet_step ((intro hw2; first
                        | rfl
                        | ((with_reducible refine (HTH.out _ hw2).mono ?_); exact fun e w' h => ⟨h.1, hw2.trans h.2⟩)
                        | ((with_reducible refine (HSM2.out _ hw2).mono ?_); exact fun e w' h => ⟨h.1, hw2.trans h.2⟩))))
                  refine wpQuiet_nil ?_
                  intro wb hUb
                  have HPb := Lib.hid (HP7.out.upd0 (HUB.out.trans hUb))
                  have HUb := Lib.hid (HU7.out.trans (HUB.out.trans hUb))
                  clear hUb HC5 HTH HSM2 HQL HQ7 HCA hszz hsy hoy HZ HPA HZY HNN HO8 HYB HKA HKZ
                  obtain ⟨va2, vt2, al2, tk2, es2, D2, hpb, hal⟩ := HPb.out
                  have HPB := Lib.hid hpb
                  have hei : (es2.length : Int) ≤ 4096 := by have := hpb.bag.room; omega
                  have HCH : Hid (∀ W, Upd [] wb W → W.cell? ⟨bp, 2, none⟩ = some (.int .i64 es2.length)) := fun W hW => by rw [cell_of_row _ _ _ _ _ _ (hW.heap HPB.out.play.cells (by simp))]; rfl
                  have HLE : Hid (∀ W, Upd [] wb W → Calls Try.prog 13 #[.pointer (some ⟨bb, 0, none⟩)] W fun e w' => e = .returned (.int .i64 es2.length) ∧ Upd [] W w') := fun W hW => (len_ W _ bb bm _ es2 D2 (HPB.out.bag.upd0 hW)).mono fun e w' h => ⟨h.1, by rw [h.2]; exact Upd.refl _ _⟩
                  have HRO : Hid (∀ W, Upd [] wb W → Calls Try.prog 18 #[.pointer (some ⟨bb, 0, none⟩)] W fun e w' => e = .returned (.int .i64 (4096 - (es2.length : Int))) ∧ Upd [] W w') := fun W hW => (room_ W _ bb bm _ es2 D2 (HPB.out.bag.upd0 hW)).mono fun e w' h => ⟨h.1, by rw [h.2]; exact Upd.refl _ _⟩
                  clear hpb hal
                  go_upto_region 25 with (fail)
                  go_simp
                  refine wp_region_quiet_all (Upd [] wb) (by kernel_rfl) (by kernel_rfl) (Upd.refl _ _).drew ?_
                  repeat (first
                    | go_big_quiet_skip
                    | (refine wpQuiet_valK rfl (quiet_of_yields (yields_cell (p := ⟨bp, 2, none⟩) rfl HCH.out Try.underlying3 rfl)) (fun K hK => ?_); go_simp; refine hK _ ?_; clear hK K)
                    | go_big_quiet_step ((intro hw2; first
                        | rfl
                        | ((with_reducible refine (HLE.out _ hw2).mono ?_); exact fun e w' h => ⟨h.1, hw2.trans h.2⟩)
                        | ((with_reducible refine (HRO.out _ hw2).mono ?_); exact fun e w' h => ⟨h.1, hw2.trans h.2⟩))))
                  refine wpQuiet_nil ?_
                  intro wz hUz
                  have HUz := Lib.hid hUz
                  clear hUz HCH HLE HRO hei
                  go_wp2_with (fail)
                  go_roundw
                  case rel => exact ⟨i + 1, by go_num, by omega, (HPb.out.upd0 HUz.out).mono (by have := HMN.out 0 (Nat.zero_le _); omega), HUb.out.trans HUz.out⟩
                  case measure => simp [intOf]; omega
              · skip
                have e1 : (kd == 1) = false := by simp; exact h1
                have e2 : (kd == 2) = false := by simp; exact h2
                have e3 : (kd == 3) = false := by simp; exact h3
                have e4 : (kd == 4) = false := by simp; exact h4
                clear h1 h2 h3 h4
                obtain ⟨va, vt, al, tk, es, D, hpb, hal⟩ := HP7.out
                have HPB := Lib.hid hpb
                have hei : (es.length : Int) ≤ 4096 := by have := hpb.bag.room; omega
                have HCH : Hid (∀ W, Upd [] w7 W → W.cell? ⟨bp, 2, none⟩ = some (.int .i64 es.length)) := fun W hW => by rw [cell_of_row _ _ _ _ _ _ (hW.heap HPB.out.play.cells (by simp))]; rfl
                have HLE : Hid (∀ W, Upd [] w7 W → Calls Try.prog 13 #[.pointer (some ⟨bb, 0, none⟩)] W fun e w' => e = .returned (.int .i64 es.length) ∧ Upd [] W w') := fun W hW => (len_ W _ bb bm _ es D (HPB.out.bag.upd0 hW)).mono fun e w' h => ⟨h.1, by rw [h.2]; exact Upd.refl _ _⟩
                have HRO : Hid (∀ W, Upd [] w7 W → Calls Try.prog 18 #[.pointer (some ⟨bb, 0, none⟩)] W fun e w' => e = .returned (.int .i64 (4096 - (es.length : Int))) ∧ Upd [] W w') := fun W hW => (room_ W _ bb bm _ es D (HPB.out.bag.upd0 hW)).mono fun e w' h => ⟨h.1, by rw [h.2]; exact Upd.refl _ _⟩
                clear hpb hal
                go_upto_region 25 with (fail)
                go_simp
                refine wp_region_quiet_all (Upd [] w7) (by kernel_rfl) (by kernel_rfl) (Upd.refl _ _).drew ?_
                repeat (first
                  | go_big_quiet_skip
                  | (refine wpQuiet_valK rfl (quiet_of_yields (yields_cell (p := ⟨bp, 2, none⟩) rfl HCH.out Try.underlying3 rfl)) (fun K hK => ?_); go_simp; refine hK _ ?_; clear hK K)
                  | go_big_quiet_step ((intro hw2; first
                      | rfl
                      | ((with_reducible refine (HLE.out _ hw2).mono ?_); exact fun e w' h => ⟨h.1, hw2.trans h.2⟩)
                      | ((with_reducible refine (HRO.out _ hw2).mono ?_); exact fun e w' h => ⟨h.1, hw2.trans h.2⟩))))
                refine wpQuiet_nil ?_
                intro wz hUz
                have HUz := Lib.hid hUz
                clear hUz HCH HLE HRO hei
                go_wp2_with (fail)
                go_roundw
                case rel => exact ⟨i + 1, by go_num, by omega, (HP7.out.upd0 HUz.out).mono (by have := HMN.out 0 (Nat.zero_le _); omega), HU7.out.trans HUz.out⟩
                case measure => simp [intOf]; omega
      · have hin : i = N := by have := HI.out; omega
        have hli : ¬ (i : Int) < (N : Int) := by omega
        have HPN : Hid (PBs wr w0.heap.size bp bb bm (i + times (ss.take i))) := HP.out
        have HIT : Hid (i + times (ss.take i) ≤ 9200) := by show i + times (ss.take i) ≤ 9200; have := times_le ss i; have := HFT.out.all; have := HNI.out; omega
        clear hin hlt
        obtain ⟨va, vt, al, tk, es, D, hpb, hal⟩ := HPN.out
        have HPB := Lib.hid hpb
        have HAL : Hid (al.length ≤ 9300) := by show al.length ≤ 9300; have := HIT.out; omega
        clear hpb hal
        go_wp2_with (fail)
        refine (list_ _ _ bb bm al.length es D HPB.out.bag (by have := HAL.out; omega)).mono ?_
        rintro e w8 ⟨v8, ts, rfl, hts, hM8, hU8⟩
        have HTS := Lib.hid hts
        have HM8 := Lib.hid hM8
        have HU8 := Lib.hid hU8
        clear hts hM8 hU8
        go_wp2_with (fail)
        refine (left_ _ _ bp va vt es.length al tk (HPB.out.play.upd0 HU8.out)).mono ?_
        rintro e w9 ⟨v9, rfl, hR9, hU9⟩
        have HR9 := Lib.hid hR9
        have HU9 := Lib.hid hU9
        clear hR9 hU9
        go_wp2_with (fail)
        refine (sameL_ _ v8 v9 ts (kept al tk) (HM8.out.upd0 HU9.out).rd HR9.out (fun t ht => ?_) (fun t ht => ?_) ?_ ?_).mono ?_
        · have h1 : t.core ∈ (es.map Ent.core) := by rw [← HTS.out]; exact List.mem_map.2 ⟨t, ht, rfl⟩
          obtain ⟨y, hy, e⟩ := List.mem_map.1 h1
          have h2 : t.b = y.b := (congrArg (fun p => p.2.2.2) e).symm
          rw [h2]
          have := HPB.out.bag.short y hy
          omega
        · have := HPB.out.play.short t (kept_sub al tk t ht)
          omega
        · have := congrArg List.length HTS.out
          simp only [List.length_map] at this
          have := HPB.out.bag.room
          omega
        · have := kept_length al tk
          have := HAL.out
          omega
        · rintro e wb ⟨rfl, hUb⟩
          have heq : ts.map Ent.core = (kept al tk).map Ent.core := HTS.out.trans HPB.out.alike
          have hd : decide (ts.map Ent.core = (kept al tk).map Ent.core) = true := by simp [heq]
          rw [hd]
          have HUB := Lib.hid hUb
          clear hUb heq hd
          go_wp2_with (fail)
          go_ret
          exact ⟨rfl, HU0.out.trans (((HU.out.trans HU8.out).trans HU9.out).trans HUB.out)⟩
      end Go.Proofs.Ytjeddokenpkpnaa
