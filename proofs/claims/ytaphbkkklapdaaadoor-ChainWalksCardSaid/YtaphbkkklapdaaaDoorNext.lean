/-
  Next of a walker.
-/
import Derived.Test.YtaphbkkklapdaaaDoorWalker
namespace Go.Proofs.YtaphbkkklapdaaaDoor
open Go Go.RowKit Go.Proofs Go.Maps
theorem run_look {w : World} {b n : Nat} {D : DataW Value} {p : Nat} {v : Value} (h : w.ownsMap Tryd.prog 3 readV b n D) (hp : p ≤ 100000) (hv : ∀ zd, D.atKey (.int .i64 (p : Int)) zd = .held v) :
    (Instr.lookup 44 (.map (some b)) (.int .i64 (p : Int)) false).run Tryd.prog w = .ok v w := by
  obtain ⟨v', ps, hrun, hr⟩ := h.lookup law Tryd.underlying44 (zero_h32 w) (zd := .held (.agg (zrow8 32))) (zp := []) rfl (hkey_nat hp)
  rw [hv] at hr
  unfold readV at hr
  injection hr with hr
  injection hr with hr
  injection hr with hr
  rw [hrun, hr]
theorem results_tct {P : Program} {fn : Func} {p u v : Tmp} {ty : TypeId} (h : fn.results = #[.tmp u, .cell p ty, .tmp v]) (tmps : Array Value) (w : World) (g : Nat) (t : TypeId) (cs : Array Value) (fr : Nat × Nat) (d : TypeDesc)
    (hp : tmps.getD p undef = .pointer (some ⟨g, 0, none⟩)) (hg : w.heap[g]? = some (.cells cs t fr))
    (hu : P.underlying ty = some d) (hd : (match d with | .struct _ | .array _ _ => true | _ => false) = true) (hi : (P.info? ty).map (·.size) = some cs.size) {v0 v1 : Value} (hv : tmps.getD u undef = v0) (hv1 : tmps.getD v undef = v1) :
    (results fn tmps).run P w = .ok (.tuple #[v0, .agg cs, v1]) w := by
  subst hv hv1
  have hp' : tmps[p]?.getD undef = .pointer (some ⟨g, 0, none⟩) := by simpa using hp
  simp [results, h, hp', asAddr, run_loadVar_row w g t ty cs fr d hg hu hd hi, Result.andThen]
set_option maxRecDepth 100000 in
theorem next_done (w : World) (lo bw bm bx n s : Nat) (seed : List (BitVec 8)) (ms : List Nat) (D : DataW Value) (h : WalkerAt w lo bw bm bx seed n n s ms D) :
    Calls Tryd.prog 8 #[.pointer (some ⟨bw, 0, none⟩)] w fun e w' => e = .returned (.tuple #[.int .i64 0, .agg (zrow8 32), .bool false]) ∧ Upd [] w w' := by
  have hcells := h.cells
  have hb0 : Tryd.prog.built 23 [] = some (zrow8 32) := by kernel_rfl
  clear h
  go_enter Tryd.func8, Tryd.ntmps8
  go_wp2_with (with_reducible refine arm_alloc (zero_h32 _) ?_)
  intro b3 w1 hb3 k3 hU1 hz1
  change w1.heap[b3]? = some (.cells (zrow8 32) 23 (0, 0)) at k3
  have hc1 := hU1.heap hcells (by simp)
  have c1 : w1.cell? ⟨bw, 1, none⟩ = some (.int .i64 n) := by rw [cell_of_row _ _ _ _ _ _ hc1]; rfl
  have c0 : w1.cell? ⟨bw, 0, none⟩ = some (.int .i64 n) := by rw [cell_of_row _ _ _ _ _ _ hc1]; rfl
  clear hz1 hcells hc1
  go_upto_region 1 with (fail)
  go_wp2_with (fail)
  go_quiet (skip)
  rename Nat => nq
  obtain ⟨w2, hw2⟩ : ∃ W, w1.drewN nq = W := ⟨_, rfl⟩
  have hU2 : Upd [] w1 w2 := by rw [← hw2]; exact (Upd.refl _ _).drewN nq
  rw [hw2]
  have k32 := hU2.heap k3 (by simp)
  have hV2 := hU1.trans hU2
  have hlb : w.heap.size ≤ b3 := Nat.le_of_eq hb3
  clear c1 c0 hw2 k3 hU1 hU2 hb3
  go_wp2_with (first
    | (with_reducible refine arm_build0 hb0 ?_)
    | (with_reducible refine arm_store (by with_unfolding_all exact rfl) (by with_unfolding_all exact rfl) k32 size_zrow32 (by with_unfolding_all exact rfl) one_zrow32 ?_))
  intro w3 k33 hX3 hz3
  go_wp2_with (fail)
  refine bodyPost_ret (v := .tuple #[.int .i64 0, .agg (zrow8 32), .bool false]) (results_tct rfl _ _ b3 23 _ (0, 0) _ rfl k33 Tryd.underlying23 rfl size_zrow32 rfl rfl) rfl ?_
  exact ⟨rfl, hV2.trans' hX3 (fun i hm hl => by have := List.mem_singleton.1 hm; omega)⟩
/-- what a call of Next leaves -/
def Told (w : World) (lo bw bm bx n told s m : Nat) (seed : List (BitVec 8)) (e : Ending) (w' : World) : Prop :=
  e = .returned (.tuple #[.int .i64 ((told + 1 : Nat) : Int), hashV (steps seed (n - (told + 1))), .bool true]) ∧ ∃ (ms : List Nat) (D : DataW Value), WalkerAt w' lo bw bm bx seed n (told + 1) (s + (m - 1)) ms D ∧ Good n (s + (m - 1)) ms ∧ ms.sum + (told + 1) = n ∧ Upd [bw, bm] w w'
set_option maxRecDepth 100000 in
set_option maxHeartbeats 12800000 in
theorem next_ (w : World) (lo bw bm bx n told s m : Nat) (seed : List (BitVec 8)) (r : List Nat) (D : DataW Value) (h : WalkerAt w lo bw bm bx seed n told s (m :: r) D) (hg : Good n s (m :: r)) (hsum : (m :: r).sum + told = n) (hn : n ≤ 4096) (hsd : seed.length = 32)
    (hG : Gl256 w) (hF : GlFirst256 w) (hgl : 1 < lo) (hfl : 0 < lo) :
    Calls Tryd.prog 8 #[.pointer (some ⟨bw, 0, none⟩)] w (Told w lo bw bm bx n told s m seed) := by
  have hm1 : 1 ≤ m := hg.pos m (by simp)
  have hrs : m + r.sum + told = n := by simpa using hsum
  obtain ⟨R0, hR0⟩ : ∃ x, r.sum = x := ⟨_, rfl⟩
  obtain ⟨G, hGd⟩ : ∃ x, n - (told + 1) = x := ⟨_, rfl⟩
  have hG1 : m + R0 = G + 1 := by omega
  have hcost := hg.cost
  have hlg : lgN n ≤ 12 := by have := lgN_mono 4096 n hn; have e : lgN 4096 = 12 := (lgN_unique (by decide) (by right; decide)).symm; omega
  have hs1 : s ≤ 30000 := by have := Nat.mul_le_mul hn hlg; omega
  have hbm := map_ne h.map h.cells
  have hbx := map_ne h.map h.box
  have hap := h.apart
  have hlow := h.low
  have hlt := h.lt
  have hcells := h.cells
  have HH := Lib.hid h
  have HGD := Lib.hid hg
  have HSD := Lib.hid hsd
  have HG := Lib.hid hG
  have HF := Lib.hid hF
  have HR0 := Lib.hid hR0
  have HG1 : Hid (m + R0 = G + 1 ∧ n = G + 1 + told ∧ 1 ≤ m ∧ n ≤ 4096 ∧ s ≤ 30000 ∧ n - (told + 1) = G) := ⟨hG1, by omega, hm1, hn, hs1, hGd⟩
  have HLO : Hid (lo ≤ bw ∧ lo ≤ bm ∧ lo ≤ bx ∧ bw ≠ bx ∧ bm ≠ bw ∧ bm ≠ bx ∧ bw < w.heap.size ∧ bm < w.heap.size ∧ bx < w.heap.size) := ⟨hlow.1, hlow.2.1, hlow.2.2, hap, hbm, hbx, hlt.1, hlt.2.1, hlt.2.2⟩
  have HGL : Hid (1 < lo ∧ 0 < lo) := ⟨hgl, hfl⟩
  have ne1 : ((told : Int) == (n : Int)) = false := by rw [beq_eq_false_iff_ne]; omega
  have ti : (told : Int) ≤ 4096 := by omega
  have hgi : (n : Int) - ((told : Int) + 1) = (G : Int) := by omega
  clear h hg hsum hsd hG hF hR0 hG1 hm1 hn hs1 hGd hrs hcost hlg hbm hbx hap hlow hlt hgl hfl
  go_enter Tryd.func8, Tryd.ntmps8
  go_wp2_with (with_reducible refine arm_alloc (zero_h32 _) ?_)
  intro b3 w1 hb3 k3 hU1 hz1
  change w1.heap[b3]? = some (.cells (zrow8 32) 23 (0, 0)) at k3
  have hc1 := hU1.heap hcells (by simp)
  have c1 : w1.cell? ⟨bw, 1, none⟩ = some (.int .i64 told) := by rw [cell_of_row _ _ _ _ _ _ hc1]; rfl
  have c0 : w1.cell? ⟨bw, 0, none⟩ = some (.int .i64 n) := by rw [cell_of_row _ _ _ _ _ _ hc1]; rfl
  clear hz1 hcells hc1
  go_upto_region 1 with (fail)
  go_wp2_with (fail)
  go_quiet (skip)
  rename Nat => nq
  obtain ⟨w2, hw2⟩ : ∃ W, w1.drewN nq = W := ⟨_, rfl⟩
  have hU2 : Upd [] w1 w2 := by rw [← hw2]; exact (Upd.refl _ _).drewN nq
  rw [hw2]
  have k32 := hU2.heap k3 (by simp)
  have hV2 := hU1.trans hU2
  have HB3 : Hid (w.heap.size ≤ b3) := Nat.le_of_eq hb3
  have HW2 := Lib.hid (HH.out.upd hV2 (by simp) (by simp) (by simp))
  have hc2 := HW2.out.cells
  have c2 : w2.cell? ⟨bw, 1, none⟩ = some (.int .i64 told) := by rw [cell_of_row _ _ _ _ _ _ hc2]; rfl
  have hws : 1 < (walkC n told bm bx s).size := by simp [walkC]
  clear c1 c0 hw2 k3 hU1 hU2 hb3
  go_upto_region 3 with (fail)
  try go_simp
  go_wp2_with (with_reducible refine arm_store_at (by with_unfolding_all exact rfl) (by with_unfolding_all exact rfl) hc2 hws (by with_unfolding_all exact rfl) size_int1 (by with_unfolding_all exact rfl) ?_)
  intro w3 hc3 hX3 hz3
  change w3.heap[bw]? = some (.cells (walkC n (told + 1) bm bx s) 46 (0, 0)) at hc3
  have k33 := hX3.heap k32 (fun hm => by have := List.mem_singleton.1 hm; have := HLO.out; have := HB3.out; omega)
  have hV3 : Upd [bw, bm] w w3 := (hV2.of0).trans' hX3 (fun i hm _ => by simp [List.mem_singleton.1 hm])
  have HW3 : Hid (WalkerAt w3 lo bw bm bx seed n (told + 1) s (m :: r) D) := ⟨hc3, hX3.heap HW2.out.box (fun hm => HLO.out.2.2.2.1 (List.mem_singleton.1 hm).symm), own_map_upd HW2.out.map hX3 (fun hm => HLO.out.2.2.2.2.1 (List.mem_singleton.1 hm)), HW2.out.peb, HW2.out.low, HW2.out.apart⟩
  have c31 : w3.cell? ⟨bw, 1, none⟩ = some (.int .i64 ((told : Int) + 1)) := by rw [cell_of_row _ _ _ _ _ _ hc3]; rfl
  have c30 : w3.cell? ⟨bw, 0, none⟩ = some (.int .i64 n) := by rw [cell_of_row _ _ _ _ _ _ hc3]; rfl
  have K33 := Lib.hid k33
  have HV3 := Lib.hid hV3
  clear hc2 c2 hws k32 hV2 hX3 hz3 hc3 k33 hV3 HW2
  go_upto_region 4 with (fail)
  go_wp2_with (fail)
  go_quiet (skip)
  rename Nat => nq
  obtain ⟨w4, hw4⟩ : ∃ W, w3.drewN nq = W := ⟨_, rfl⟩
  have hU4 : Upd [] w3 w4 := by rw [← hw4]; exact (Upd.refl _ _).drewN nq
  rw [hw4]
  have HW4 := Lib.hid (HW3.out.upd hU4 (by simp) (by simp) (by simp))
  have K34 := Lib.hid (hU4.heap K33.out (by simp))
  have HV4 := Lib.hid (HV3.out.trans0 hU4)
  clear hw4 hU4 c31 c30 HW3 K33 HV3 hgi ne1
  have hgm : (G : Int) ≤ 4096 := by have := HG1.out; omega
  have hwr : IntKind.i64.wrap (G : Int) = (G : Int) := by simp only [IntKind.wrap, IntKind.bits, IntKind.signed]; simp; omega
  rw [hwr]
  clear hwr
  go_wp2_with (fail)
  refine (nearest_ w4 lo bw bm bx n (told + 1) s m seed r D HW4.out).mono ?_
  rw [HR0.out]
  rintro e w5 ⟨rfl, hU5⟩
  have hw5 := HW4.out.upd hU5 (by simp) (by simp) (by simp)
  have HW5 := Lib.hid hw5
  have K35 := Lib.hid (hU5.heap K34.out (by simp))
  have HV5 := Lib.hid (HV4.out.trans0 hU5)
  have c52 : w5.cell? ⟨bw, 2, none⟩ = some (.map (some bm)) := by rw [cell_of_row _ _ _ _ _ _ hw5.cells]; rfl
  have hstR : (R0 : Int) ≤ 4096 := by have := HG1.out; omega
  have hlk := run_look (p := R0) (v := hashV (steps seed R0)) hw5.map (by have := HG1.out; omega) (hw5.peb.val R0 (by rw [← HR0.out]; simp [starts]))
  have hxl := steps_length seed HSD.out R0
  have hsx := size_of32 hxl
  have hox := same_size32 hxl
  have hax := one_of32 (steps seed R0)
  unfold hashV at hlk
  obtain ⟨cx, hcx⟩ : ∃ c, ((steps seed R0).map U8).toArray = c := ⟨_, rfl⟩
  rw [hcx] at hlk hsx hox hax
  have HCX := Lib.hid hcx
  clear hU5 HW4 K34 HV4 hw5 hxl hcx
  go_wp2_with (with_reducible refine arm_alloc (zero_h32 _) ?_)
  intro b7 w6 hb7 k6 hU6 hz6
  change w6.heap[b7]? = some (.cells (zrow8 32) 23 (0, 0)) at k6
  have hl7 : w.heap.size ≤ b7 ∧ b3 ≠ b7 := by
    have h1 := HV5.out.size
    have h2 := lt_of_heap K35.out
    omega
  go_wp2_with (with_reducible refine arm_store (by with_unfolding_all exact rfl) (by with_unfolding_all exact rfl) k6 hsx hox hax ?_)
  intro w7 k7 hX7 hz7
  rw [← HCX.out] at k7
  have hT7 := hU6.fresh hb7 hX7
  have HW7 := Lib.hid (HW5.out.upd hT7 (by simp) (by simp) (by simp))
  have K37 := Lib.hid (hT7.heap K35.out (by simp))
  have HV7 := Lib.hid (HV5.out.trans0 hT7)
  have K77 := Lib.hid k7
  have HL7 : Hid (w.heap.size ≤ b7 ∧ b3 ≠ b7) := hl7
  clear hb7 k6 hU6 hz6 k7 hX7 hz7 hT7 hl7 c52 hlk hsx hox hax HW5 K35 HV5
  go_upto_region 7 with (fail)
  try go_simp
  go_loopw [6, 8] (fun av hv wr => ∃ (m' a s' : Nat) (r' : List Nat) (D' : DataW Value), r'.sum = a ∧ m' + a = G + 1 ∧ av = .int .i64 a ∧ WalkerAt wr lo bw bm bx seed n (told + 1) s' (m' :: r') D' ∧ Good n s' (m' :: r') ∧ s' + m' = s + m ∧ 1 ≤ m' ∧ wr.heap[b7]? = some (.cells ((steps seed a).map U8).toArray 23 (0, 0)) ∧ wr.heap[b3]? = some (.cells (zrow8 32) 23 (0, 0)) ∧ Upd [bw, bm] w wr) (fun av _ _ => G - (intOf av).toNat)
  case atStart => exact ⟨m, R0, s, r, D, HR0.out, HG1.out.1, rfl, HW7.out, HGD.out, rfl, HG1.out.2.2.1, K77.out, K37.out, HV7.out⟩
  case round =>
    obtain ⟨m', a, s', r', D', hra, hma, rfl, hW, hgd, hsm, hm1, k7, k3, hV⟩ := hrel
    obtain ⟨wo, rfl⟩ : ∃ wo : World, wo = wr := ⟨_, rfl⟩
    have HWo := Lib.hid hW
    have HGo := Lib.hid hgd
    have HRA := Lib.hid hra
    have HSM := Lib.hid hsm
    have K7o := Lib.hid k7
    have K3o := Lib.hid k3
    have HVo := Lib.hid hV
    have HMA : Hid (m' + a = G + 1 ∧ 1 ≤ m') := ⟨hma, hm1⟩
    have hs30 : s' ≤ 60000 := by have := HG1.out; omega
    have HS30 : Hid (s' ≤ 60000) := hs30
    have ai : (a : Int) ≤ 4096 := by have := HG1.out; omega
    clear hW hgd hra hsm k7 k3 hV hs30
    by_cases h2 : 2 ≤ m'
    · have ag : (a : Int) < (G : Int) := by omega
      obtain ⟨hf, hfd⟩ : ∃ x, m' / 2 = x := ⟨_, rfl⟩
      have hq1 : (G : Int) - (a : Int) + 1 = (m' : Int) := by omega
      have hq2 : ((m' : Int)).tdiv 2 = (hf : Int) := by rw [← hfd]; rfl
      have hfi : (hf : Int) ≤ 4096 := by omega
      have hmi : (m' : Int) ≤ 4097 := by omega
      have HFD : Hid (m' / 2 = hf ∧ 2 ≤ m' ∧ hf < m') := ⟨hfd, h2, by omega⟩
      have hgai : (G : Int) - (a : Int) ≤ 4096 := by omega
      have hgaj : (0 : Int) ≤ (G : Int) - (a : Int) := by omega
      clear hma hm1 h2 hfd
      go_upto_region 10 with (fail)
      go_loopw [52] (fun iv wi => ∃ q : Nat, q ≤ hf ∧ iv = .int .i64 q ∧ WalkerAt wi lo bw bm bx seed n (told + 1) (s' + q) (m' :: r') D' ∧ wi.heap[b7]? = some (.cells ((steps seed (a + q)).map U8).toArray 23 (0, 0)) ∧ wi.heap[b3]? = some (.cells (zrow8 32) 23 (0, 0)) ∧ Upd [bw, bm] w wi) (fun iv _ => hf - (intOf iv).toNat)
      case atStart => exact ⟨0, by omega, rfl, HWo.out, K7o.out, K3o.out, HVo.out⟩
      case round =>
        obtain ⟨q, hq, rfl, hW, k7, k3, hV⟩ := hrel
        obtain ⟨wi, rfl⟩ : ∃ wi : World, wi = wr := ⟨_, rfl⟩
        have HWi := Lib.hid hW
        have K7i := Lib.hid k7
        have K3i := Lib.hid k3
        have HVi := Lib.hid hV
        have HQ : Hid (q ≤ hf) := hq
        clear hW k7 k3 hV
        by_cases hqh : q < hf
        · have qi : (q : Int) < (hf : Int) := by omega
          have hxl := steps_length seed HSD.out (a + q)
          have hsx := size_of32 hxl
          have hyl := steps_length seed HSD.out (a + q + 1)
          have hsy := size_of32 hyl
          have hoy := same_size32 hyl
          have hay := one_of32 (steps seed (a + q + 1))
          have HQ7 : Hid (∀ W, Upd [] wi W → ∃ t fr, W.heap[b7]? = some (.cells ((steps seed (a + q)).map U8).toArray t fr)) := fun W hW => ⟨_, _, hW.heap K7i.out (by simp)⟩
          have HQF : Hid (∀ W, Upd [] wi W → W.cell? ⟨bw, 3, none⟩ = some (funV bx)) := fun W hW => by rw [cell_of_row _ _ _ _ _ _ (hW.heap HWi.out.cells (by simp))]; rfl
          have HS1 : Hid (∀ W, Upd [] wi W → Calls Tryd.prog 16 #[hashV (steps seed (a + q)), .pointer (some ⟨bx, 0, none⟩)] W fun e w' => e = .returned (hashV (steps seed (a + q + 1))) ∧ WalkerAt w' lo bw bm bx seed n (told + 1) (s' + q + 1) (m' :: r') D' ∧ Upd [bw] W w') := fun W hW => by
            have hV := HVi.out.trans0 hW
            exact step1_ W lo bw bm bx n (told + 1) (s' + q) seed (steps seed (a + q)) (m' :: r') D' (HWi.out.upd hW (by simp) (by simp) (by simp)) hxl (by have := HS30.out; have := HFD.out; have := HMA.out; have := HG1.out; omega) (HG.out.upd hV (by have := HGL.out; have := HLO.out; simp; omega)) (HF.out.upd hV (by have := HGL.out; have := HLO.out; simp; omega)) HGL.out.1 HGL.out.2
          unfold hashV at HS1
          obtain ⟨cx, hcx⟩ : ∃ c, ((steps seed (a + q)).map U8).toArray = c := ⟨_, rfl⟩
          obtain ⟨cy, hcy⟩ : ∃ c, ((steps seed (a + q + 1)).map U8).toArray = c := ⟨_, rfl⟩
          rw [hcx] at hsx HQ7 HS1 K7i
          rw [hcy] at hsy hoy hay HS1
          have HCY := Lib.hid hcy
          have hxy : cx.size = cy.size := by rw [← hcx, ← hcy]; simp [hxl, hyl]
          clear hxl hyl hcx hcy hqh hq
          unfold funV at HQF
          go_upto_region 11 with (fail)
          refine wp_region_quiet_tail 5 (Upd [] wi) (by kernel_rfl) (by kernel_rfl) (Upd.refl _ _).drew ?_
          simp only [List.take_succ_cons, List.take_zero, List.drop_succ_cons, List.drop_zero]
          repeat (first
            | (refine wpQuiet_valK rfl (quiet_of_yields (yields_cell (p := ⟨bw, 3, none⟩) rfl HQF.out Tryd.underlying36 rfl)) (fun K hK => ?_); go_simp; refine hK _ ?_; clear hK K)
            | (refine wpQuiet_valK rfl (quiet_load_row 23 _ rfl b7 rfl _ HQ7.out Tryd.underlying23 rfl hsx) (fun K hK => ?_); go_simp; refine hK _ ?_; clear hK K)
            | (refine wpQuiet_step (fun K hK => ?_)
               go_simp
               first
                 | (refine ⟨_, fun _ _ => rfl, hK _ ?_⟩; clear hK K)
                 | (refine hK _ ?_; clear hK K)))
          refine wpQuiet_nil ?_
          intro wj hUj
          go_wp2_with (fail)
          with_reducible refine (HS1.out _ hUj).mono ?_
          rintro e wk ⟨rfl, hWk, hUk⟩
          have hb7 : b7 ≠ bw := by have := HL7.out; have := HLO.out; omega
          have hb3 : b3 ≠ bw := by have := HB3.out; have := HLO.out; omega
          have k7k := hUk.heap (hUj.heap K7i.out (by simp)) (fun hm => hb7 (List.mem_singleton.1 hm))
          have k3k := hUk.heap (hUj.heap K3i.out (by simp)) (fun hm => hb3 (List.mem_singleton.1 hm))
          have hVk : Upd [bw, bm] w wk := (HVi.out.trans0 hUj).trans' hUk (fun i hm _ => by simp [List.mem_singleton.1 hm])
          have HWk := Lib.hid hWk
          have HVk := Lib.hid hVk
          have K3k := Lib.hid k3k
          clear hUj hUk hb7 hb3 hWk hVk k3k HQ7 HQF HS1
          go_wp2_with (with_reducible refine arm_store (by with_unfolding_all exact rfl) (by with_unfolding_all exact rfl) k7k hsy hxy hay ?_)
          intro wl k7l hXl hzl
          have hl7 := HL7.out
          have hlo := HLO.out
          have hl3 := HB3.out
          have hWl := HWk.out.upd hXl (fun hm => by have := List.mem_singleton.1 hm; omega) (fun hm => by have := List.mem_singleton.1 hm; omega) (fun hm => by have := List.mem_singleton.1 hm; omega)
          have k3l := hXl.heap K3k.out (fun hm => by have := List.mem_singleton.1 hm; omega)
          have hVl : Upd [bw, bm] w wl := HVk.out.trans' hXl (fun i hm hl => by have := List.mem_singleton.1 hm; omega)
          rw [← HCY.out] at k7l
          clear hXl hzl hsx hsy hoy hay hxy hl7 hlo hl3 k7k
          go_wp2_with (fail)
          go_roundw
          case rel => exact ⟨q + 1, by have := HQ.out; omega, by go_num, hWl, k7l, k3l, hVl⟩
          case measure => simp [intOf]; omega
        · have hqe : q = hf := by omega
          subst hqe
          have qi : ¬ (q : Int) < (q : Int) := by omega
          have hxl := steps_length seed HSD.out (a + q)
          have hsx := size_of32 hxl
          have HQ7 : Hid (∀ W, Upd [] wi W → ∃ t fr, W.heap[b7]? = some (.cells ((steps seed (a + q)).map U8).toArray t fr)) := fun W hW => ⟨_, _, hW.heap K7i.out (by simp)⟩
          have HQM : Hid (∀ W, Upd [] wi W → W.cell? ⟨bw, 2, none⟩ = some (.map (some bm))) := fun W hW => by rw [cell_of_row _ _ _ _ _ _ (hW.heap HWi.out.cells (by simp))]; rfl
          obtain ⟨cx, hcx⟩ : ∃ c, ((steps seed (a + q)).map U8).toArray = c := ⟨_, rfl⟩
          rw [hcx] at hsx HQ7
          have HCX2 := Lib.hid hcx
          have aqi : (a : Int) + (q : Int) ≤ 10000 := by omega
          clear hxl hcx hqh hq
          go_upto_region 14 with (fail)
          refine wp_region_quiet_tail 6 (Upd [] wi) (by kernel_rfl) (by kernel_rfl) (Upd.refl _ _).drew ?_
          simp only [List.take_succ_cons, List.take_zero, List.drop_succ_cons, List.drop_zero]
          repeat (first
            | (refine wpQuiet_valK rfl (quiet_of_yields (yields_cell (p := ⟨bw, 2, none⟩) rfl HQM.out Tryd.underlying44 rfl)) (fun K hK => ?_); go_simp; refine hK _ ?_; clear hK K)
            | (refine wpQuiet_valK rfl (quiet_load_row 23 _ rfl b7 rfl _ HQ7.out Tryd.underlying23 rfl hsx) (fun K hK => ?_); go_simp; refine hK _ ?_; clear hK K)
            | (refine wpQuiet_step (fun K hK => ?_)
               go_simp
               first
                 | (refine ⟨_, fun _ _ => rfl, hK _ ?_⟩; clear hK K)
                 | (refine hK _ ?_; clear hK K)))
          refine wpQuiet_nil ?_
          intro wj hUj
          have hWj := HWi.out.upd hUj (by simp) (by simp) (by simp)
          have hkw : (Lit.int .i64 ((a : Int) + (q : Int))).wf = true := by simp [Lit.wf, IntKind.min, IntKind.max, IntKind.signed, IntKind.bits]; omega
          have hcnt : (m' :: r').length < maxLen := by have := HGo.out.count; have := HG1.out; have h12 := lgN_mono 4096 n this.2.2.2.1; have e : lgN 4096 = 12 := (lgN_unique (by decide) (by right; decide)).symm; unfold maxLen; omega
          go_wp2_with (at_mapUpdate; refine wpList_mapUpdate_own _ rfl _ _ _ 44 rfl 3 23 law Tryd.underlying44 readV bm (m' :: r').length D' (by with_unfolding_all exact rfl) hWj.map hcnt (.int .i64 ((a : Int) + (q : Int))) (.agg cx) (.int .i64 ((a : Int) + (q : Int))) (by with_unfolding_all exact rfl) (by with_unfolding_all exact rfl) (keyOf_int_mk Tryd.underlying3 hkw) _ [] rfl ?_)
          intro wl hownl hgrl
          have hUl : Upd [bm] wj wl := (Upd.refl _ _).grown hgrl (fun k hk _ => by cases hk; simp)
          have hlo := HLO.out
          have hl7 := HL7.out
          have hl3 := HB3.out
          have hPl := Peb.half HWi.out.peb HFD.out.2.1
          have e1 : ((m' / 2 + r'.sum : Nat) : Int) = (a : Int) + (q : Int) := by have := HFD.out.1; have := HRA.out; omega
          have e2 : steps seed (m' / 2 + r'.sum) = steps seed (a + q) := by congr 1; have := HFD.out.1; have := HRA.out; omega
          rw [e1, e2] at hPl
          unfold hashV at hPl
          rw [HCX2.out] at hPl
          have hWl : WalkerAt wl lo bw bm bx seed n (told + 1) (s' + q) ((m' - m' / 2) :: m' / 2 :: r') _ := ⟨hUl.heap hWj.cells (fun hm => by have := List.mem_singleton.1 hm; omega), hUl.heap hWj.box (fun hm => by have := List.mem_singleton.1 hm; omega), hownl, hPl, hWj.low, hWj.apart⟩
          have hgl := HGo.out.half HFD.out.2.1
          rw [show s' + m' / 2 = s' + q by have := HFD.out.1; omega] at hgl
          have k7l := hUl.heap (hUj.heap K7i.out (by simp)) (fun hm => by have := List.mem_singleton.1 hm; omega)
          have k3l := hUl.heap (hUj.heap K3i.out (by simp)) (fun hm => by have := List.mem_singleton.1 hm; omega)
          have hVl : Upd [bw, bm] w wl := (HVi.out.trans0 hUj).trans' hUl (fun i hm _ => by simp [List.mem_singleton.1 hm])
          have HWl := Lib.hid hWl
          have HGl' := Lib.hid hgl
          have K7l := Lib.hid k7l
          have K3l := Lib.hid k3l
          have HVl := Lib.hid hVl
          clear hownl hgrl hUl hlo hl7 hl3 hPl e1 e2 hWl hgl k7l k3l hVl hWj hUj hkw hcnt HQ7 HQM
          go_wp2_with (fail)
          go_roundw
          case rel => exact ⟨m' - m' / 2, a + q, s' + q, m' / 2 :: r', _, by have := HFD.out.1; have := HRA.out; simp only [List.sum_cons]; omega, by have := HFD.out; have := HMA.out; omega, by go_num, HWl.out, HGl'.out, by have := HFD.out; have := HSM.out; omega, by have := HFD.out; omega, K7l.out, K3l.out, HVl.out⟩
          case measure => have := HFD.out; simp [intOf]; omega
    · have hm2 : m' = 1 := by omega
      subst hm2
      have haG : a = G := by omega
      subst haG
      have ag : ¬ (a : Int) < (a : Int) := by omega
      have hWo := HWo.out
      have cm : wo.cell? ⟨bw, 2, none⟩ = some (.map (some bm)) := by rw [cell_of_row _ _ _ _ _ _ hWo.cells]; rfl
      have hkey := hkey_nat (x := a) (by have := HG1.out; omega)
      clear hma hm1 h2
      go_upto_region 15 with (fail)
      try go_simp
      go_wp2_with (at_delete; refine wpList_delete_own _ rfl _ _ 44 3 rfl 23 law Tryd.underlying44 readV bm _ D' (by with_unfolding_all exact rfl) hWo.map (.int .i64 (a : Int)) (.int .i64 (a : Int)) (by with_unfolding_all exact rfl) hkey ?_)
      intro wl hownl hturn
      have hUl : Upd [bm] wo wl := (Upd.refl _ _).grown hturn.grown (fun k hk _ => by cases hk; simp)
      have hlo := HLO.out
      have hl7 := HL7.out
      have hl3 := HB3.out
      have hPl := Peb.pop HWo.out.peb HGo.out.pos
      rw [HRA.out] at hPl
      have hown' := own_tight hownl
      rw [hPl.size] at hown'
      have hWl : WalkerAt wl lo bw bm bx seed n (told + 1) s' r' _ := ⟨hUl.heap hWo.cells (fun hm => by have := List.mem_singleton.1 hm; omega), hUl.heap hWo.box (fun hm => by have := List.mem_singleton.1 hm; omega), hown', hPl, hWo.low, hWo.apart⟩
      have hgl := HGo.out.pop
      have k7l := hUl.heap K7o.out (fun hm => by have := List.mem_singleton.1 hm; omega)
      have k3l := hUl.heap K3o.out (fun hm => by have := List.mem_singleton.1 hm; omega)
      have hVl : Upd [bw, bm] w wl := HVo.out.trans' hUl (fun i hm _ => by simp [List.mem_singleton.1 hm])
      have hxl := steps_length seed HSD.out a
      have hsx := size_of32 hxl
      have hox := same_size32 hxl
      have hax := one_of32 (steps seed a)
      have hb37 : b7 ≠ b3 := fun e => HL7.out.2 e.symm
      have HQ7 : Hid (∀ W, Upd [b3] wl W → ∃ t fr, W.heap[b7]? = some (.cells ((steps seed a).map U8).toArray t fr)) := fun W hW => ⟨_, _, hW.heap k7l (fun hm => hb37 (List.mem_singleton.1 hm))⟩
      have HQT : Hid (∀ W, Upd [b3] wl W → W.cell? ⟨bw, 1, none⟩ = some (.int .i64 ((told + 1 : Nat) : Int))) := fun W hW => by rw [cell_of_row _ _ _ _ _ _ (hW.heap hWl.cells (fun hm => by have := List.mem_singleton.1 hm; omega))]; rfl
      clear hb37
      have HWl := Lib.hid hWl
      have HGl' := Lib.hid hgl
      have K3l := Lib.hid k3l
      have HVl := Lib.hid hVl
      obtain ⟨cx, hcx⟩ : ∃ c, ((steps seed a).map U8).toArray = c := ⟨_, rfl⟩
      rw [hcx] at hsx hox hax HQ7
      have HCX2 := Lib.hid hcx
      clear hownl hturn hUl hlo hl7 hl3 hPl hown' hWl hgl k7l k3l hVl hxl hcx hWo cm hkey
      go_upto_region 16 with (fail)
      try go_simp
      refine wp_region_orders [0, 1, 2, 3, 4] (.step 5 (.step 6 (.step 7 .none .none) .none) .none) (Upd [b3] wl) (by kernel_rfl) (by kernel_rfl) (Upd.refl _ _).drew ?_
      refine takeO_cons _ (.pointer (some ⟨bw, 0, none⟩)) rfl (by kernel_rfl) (yields_move (by kernel_rfl)) ?_
      refine takeO_cons _ (.pointer (some ⟨bw, 0, none⟩)) rfl (by kernel_rfl) (fun w _ => by kernel_rfl) ?_
      refine takeO_cons _ (.pointer (some ⟨bw, 1, none⟩)) rfl (by kernel_rfl) (fun w _ => by kernel_rfl) ?_
      refine takeO_cons _ (.int .i64 ((told + 1 : Nat) : Int)) rfl (by kernel_rfl) (yields_cell (p := ⟨bw, 1, none⟩) (by kernel_rfl) HQT.out Tryd.underlying3 rfl) ?_
      refine takeO_cons _ (.agg cx) rfl (by kernel_rfl) (yields_row (by kernel_rfl) HQ7.out Tryd.underlying23 rfl hsx) ?_
      refine takeO_nil (by simp [Ord.first]) ?_
      refine ordP_step _ (by simp only [List.getElem?_toArray, List.getElem?_cons_succ, List.getElem?_cons_zero]; rfl) ?_ ordP_none
      go_wp2_with (fail)
      refine ord_more (by simp [Ord.first]) (Upd.refl _ _).drew ?_
      refine ordP_step _ (by simp only [List.getElem?_toArray, List.getElem?_cons_succ, List.getElem?_cons_zero]; rfl) ?_ ordP_none
      have k3m : wl.drew.heap[b3]? = some (.cells (zrow8 32) 23 (0, 0)) := K3l.out
      have hUm : Upd [] wl wl.drew := (Upd.refl _ _).drew
      with_reducible refine arm_store (by with_unfolding_all exact rfl) (by with_unfolding_all exact rfl) k3m hsx hox hax ?_
      intro wn k3n hXn hzn
      go_wp2_with (fail)
      refine ord_more (by simp [Ord.first]) ((Upd.refl _ _).drew.trans hXn) ?_
      refine ordP_step _ (by simp only [List.getElem?_toArray, List.getElem?_cons_succ, List.getElem?_cons_zero]; rfl) ?_ ordP_none
      go_wp2_with (fail)
      refine ord_last ((Upd.refl _ _).drew.trans hXn) ?_
      show Exit.then _ _ Exit.normal _ _
      go_wp2_with (fail)
      have hl3 := HB3.out
      have hlo := HLO.out
      have hWn := (HWl.out.upd hUm (by simp) (by simp) (by simp)).upd hXn (fun hm => by have := List.mem_singleton.1 hm; omega) (fun hm => by have := List.mem_singleton.1 hm; omega) (fun hm => by have := List.mem_singleton.1 hm; omega)
      have hVn : Upd [bw, bm] w wn := (HVl.out.trans0 hUm).trans' hXn (fun i hm hl => by have := List.mem_singleton.1 hm; omega)
      refine bodyPost_ret (results_tct rfl _ _ b3 23 _ (0, 0) _ rfl k3n Tryd.underlying23 rfl hsx rfl rfl) rfl ?_
      have e1 : s' = s + (m - 1) := by have := HSM.out; have := HG1.out; omega
      have e2 : n - (told + 1) = a := by have := HG1.out; omega
      subst e1
      refine ⟨?_, r', _, hWn, HGl'.out, by have := HRA.out; have := HG1.out; omega, hVn⟩
      rw [e2]
      unfold hashV
      rw [HCX2.out]
      rfl
end Go.Proofs.YtaphbkkklapdaaaDoor
