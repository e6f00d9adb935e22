/-
  CheckConsistency: is a bridge taken?
-/
import Derived.Test.YtdfoffheolbokaaDoorCheckI
import Derived.Outline
import Derived.Deep.DeepCutAuto
namespace Go.Proofs.YtdfoffheolbokaaDoor
open Go Go.RowKit Go.Proofs
theorem crossH_len : ∀ (s : List Bool) (q : List H8) (h : H8 × H8), h.1.length = 32 → h.2.length = 32 → (crossH h s q).1.length = 32 ∧ (crossH h s q).2.length = 32
  | [], _, h, h1, h2 => by simpa [crossH] using ⟨h1, h2⟩
  | _ :: _, [], h, h1, h2 => by simpa [crossH] using ⟨h1, h2⟩
  | b :: s, p :: q, h, h1, h2 => by
    rw [crossH]
    cases b
    · exact crossH_len s q _ (by simpa using h1) (by simpa using nodeH_length _ _)
    · exact crossH_len s q _ (by simpa using nodeH_length _ _) (by simpa using nodeH_length _ _)
theorem size_hash0 : (Tryd.prog.info? 27).map (·.size) = some 32 := by kernel_rfl
/-- a range that stands -/
theorem yields_mid {P : Program} {S : World → Prop} {a : Act} {dst : Option Tmp} {ty type : TypeId} {pos : String} {after : Array Edge} {gd : Option (Nat × Bool)} {x : Operand} {g k : Nat} {cs : List Value} {d : TypeDesc}
    (hx : a.eval x = .pointer (some ⟨g, k, none⟩)) (hr : ∀ w, S w → w.rangeAt g k cs) (hu : P.underlying ty = some d) (hd : d.isRow = true) (hi : (P.info? ty).map (·.size) = some cs.length) :
    ∀ w, S w → (execOp a.eval ⟨dst, .load ty x, type, pos, after, gd⟩).run P w = .ok (.value (.agg cs.toArray)) w := by
  intro w hS
  unfold execOp
  simp only [hx, Instr.loadAt, Instr.sureAddr, Sem.run_bind, Sem.run_pure, Result.andThen_ok, run_loadVar_mid w g k ty cs d (hr w hS) hu hd hi]
/-- where a bridge begins: at the old root, or at its own first hash -/
def startC (old : H8) (P : List H8) (whole : Bool) : Option (H8 × List H8) :=
  if whole then some (old, P) else match P with
    | [] => none
    | p :: q => some (p, q)
/-- is a bridge taken? -/
def takenC (m n : Nat) (old root : H8) (P : List H8) : Bool :=
  if m = 0 then P.length == 0 && old == sha256 [] else
  match startC old P (lastAt m n == 0) with
  | none => false
  | some (b, Q) => Q.length == (wayDown m n).length && ((crossH (b, b) (wayDown m n).reverse Q).1 == old && (crossH (b, b) (wayDown m n).reverse Q).2 == root)
set_option maxRecDepth 100000 in
set_option maxHeartbeats 3200000 in
theorem checkC_bad (w : World) (cl ct : Array Value) (m n : Int) (pv : Value) (hbad : m < 0 ∨ n < m ∨ n > 65536) :
    Calls Tryd.prog 27 #[.int .i64 m, .int .i64 n, .agg cl, .agg ct, pv] w fun e w' => e = .returned (.bool false) ∧ Upd [] w w' := by
  by_cases h1 : m < 0
  · clear hbad
    go_enter Tryd.func27, Tryd.ntmps27
    go_wp2_with (fail)
    go_ret
    exact ⟨rfl, ((Upd.refl _ w).alloc _).alloc _⟩
  · by_cases h2 : m > n
    · clear hbad
      go_enter Tryd.func27, Tryd.ntmps27
      go_wp2_with (fail)
      go_ret
      exact ⟨rfl, ((Upd.refl _ w).alloc _).alloc _⟩
    · have h3 : n > 65536 := by omega
      clear hbad
      go_enter Tryd.func27, Tryd.ntmps27
      go_wp2_with (fail)
      go_ret
      exact ⟨rfl, ((Upd.refl _ w).alloc _).alloc _⟩
set_option maxRecDepth 100000 in
set_option maxHeartbeats 6400000 in
theorem checkC_ (w : World) (old root : H8) (m n : Nat) (pv : Value) (P : List H8) (hl : old.length = 32) (hr : root.length = 32) (h0 : 0 < m) (hi : m ≤ n) (hn : n ≤ 65536) (hp : RdH w pv P) (hpl : P.length ≤ 1000000) (hg : Gl256 w) (hf : GlFirst256 w) :
    Calls Tryd.prog 27 #[.int .i64 m, .int .i64 n, .agg (old.map U8).toArray, .agg (root.map U8).toArray, pv] w fun e w' => e = .returned (.bool (takenC m n old root P)) ∧ Upd [] w w' := by
  obtain ⟨A, c, e, hc1, hc2⟩ := hp.isSlice
  obtain ⟨pn, hm⟩ : ∃ m, P.length = m := ⟨_, rfl⟩
  rw [hm] at e hc1 hpl
  rw [e] at hp ⊢
  obtain ⟨S, hS⟩ : ∃ S, wayDown m n = S := ⟨_, rfl⟩
  have HTK : Hid (takenC m n old root P = match startC old P (lastAt m n == 0) with
      | none => false
      | some (b, Q) => Q.length == S.length && ((crossH (b, b) S.reverse Q).1 == old && (crossH (b, b) S.reverse Q).2 == root)) := by
    unfold takenC; rw [if_neg (by omega), hS]; exact rfl
  have HSB : Hid (S.length ≤ 65536) := by have := wayDown_bd n m h0; rw [hS] at this; exact (by omega : S.length ≤ 65536)
  have HWD := Lib.hid hS
  have hgl := hg.lt
  have hfl := hf.lt
  have HPLT := Lib.hid (hp.lt)
  have HP := Lib.hid hp
  have HM := Lib.hid hm
  have HG := Lib.hid hg
  have HF := Lib.hid hf
  have HL32 := Lib.hid hl
  have HR32 := Lib.hid hr
  have hsl0 := szrow hl
  have hsr0 := szrow hr
  have hol0 := sameZ hl
  have hal0 := oneAll old
  have d1 : ¬ ((n : Int) > 65536) := by omega
  have d2 : ¬ ((m : Int) < 0) := by omega
  have d3 : ¬ ((m : Int) > (n : Int)) := by omega
  have d4 : ((m : Int) == 0) = false := by simp; omega
  have d5 : decide (n < m) = false := by simp; omega
  have d6 : decide ((m : Int) < 0) = false := by simp
  have d7 : decide (65536 < (n : Int)) = false := by simp; omega
  obtain ⟨cl, hcl⟩ : ∃ c, (old.map U8).toArray = c := ⟨_, rfl⟩
  obtain ⟨ct, hct⟩ : ∃ c, (root.map U8).toArray = c := ⟨_, rfl⟩
  rw [hcl] at hsl0 hol0 hal0 ⊢
  rw [hct] at hsr0 ⊢
  have HCL := Lib.hid hcl
  have HCT := Lib.hid hct
  have hgd := guard_h32
  obtain ⟨B, hB⟩ : ∃ B, w.heap.size = B := ⟨_, rfl⟩
  have HB := Lib.hid hB
  clear hp hg hf hl hr hS hcl hct e hm hB
  go_enter Tryd.func27, Tryd.ntmps27
  go_wp2_with (with_reducible refine arm_box (by with_unfolding_all exact rfl) ?_)
  intro b7 w5 hb7 k7 hU5 hz5
  change w5.heap[b7]? = some (.cells cl 27 (0, 0)) at k7
  go_wp2_with (with_reducible refine arm_box (by with_unfolding_all exact rfl) ?_)
  intro b8 w9 hb8 k8 hU9 hz9
  change w9.heap[b8]? = some (.cells ct 27 (0, 0)) at k8
  have k79 := hU9.heap k7 (by simp)
  have hV9 := hU5.trans hU9
  have hl7 := lt_of_heap k79
  have hl8 := lt_of_heap k8
  have HV9 := Lib.hid hV9
  have H7 := Lib.hid k79
  have H8' := Lib.hid k8
  obtain ⟨B9, hB9⟩ : ∃ B, w9.heap.size = B := ⟨_, rfl⟩
  rw [hB9] at hl7 hl8
  have HB9 := Lib.hid hB9
  have hBB9 : Hid (B ≤ B9) := by have h1 := hV9.size; have h2 := HB.out; exact (by omega : B ≤ B9)
  clear hb7 hz5 hb8 hz9 k7 hU5 hU9 k79 k8 hV9 hB9
  go_wp2_with (fail)
  go_loopw [11, 12, 13, 14] (fun dv whv av bv wr => ∃ a b off : Nat, ∃ l : List Bool, 0 < a ∧ a ≤ b ∧ b ≤ n ∧ av = .int .i64 a ∧ bv = .int .i64 b ∧ whv = .bool (decide (off = 0)) ∧ OwnL wr B9 dv l ∧ l ++ wayDown a b = S ∧ lastAt m n = off + lastAt a b ∧ Upd [] w9 wr) (fun _ _ _ bv _ => (intOf bv).toNat)
  case atStart => exact ⟨m, n, 0, [], h0, hi, Nat.le_refl _, rfl, rfl, rfl, OwnL.nil _ _, HWD.out, by simp, Upd.refl _ _⟩
  case round =>
    obtain ⟨a, b, off, l, ha0, hab, hbn, rfl, rfl, rfl, hO, hPP, hLA, hU⟩ := hrel
    have HO := Lib.hid hO
    have HPP := Lib.hid hPP
    have HLA := Lib.hid hLA
    have HU := Lib.hid hU
    obtain ⟨wo, rfl⟩ : ∃ wo : World, wo = wr := ⟨_, rfl⟩
    have hbw : B9 ≤ wo.heap.size := by have := hU.size; have := HB9.out; omega
    have hll : l.length ≤ 65536 := by have h1 := HSB.out; rw [← hPP] at h1; simp at h1; omega
    clear hO hPP hLA hU
    by_cases h : a < b
    · have h' : ¬ ((a : Int) = (b : Int)) := by omega
      have hb1 : 1 < b := by omega
      have hk1 := halfN_lt hb1
      have hk0 := halfN_pos b
      have HSP : Hid (∀ W, Calls Tryd.prog 37 #[.int .i64 b] W fun e w' => e = .returned (.int .i64 (halfN b)) ∧ W = w') := fun W => split_ W b hb1 (by omega)
      have HPL : Hid (halfN b < a → wayDown a b = true :: wayDown (a - halfN b) (b - halfN b) ∧ lastAt a b = halfN b + lastAt (a - halfN b) (b - halfN b)) := fun hk => ⟨wayDown_left a b ha0 h hk, lastAt_left a b ha0 h hk⟩
      have HPR : Hid (a ≤ halfN b → wayDown a b = false :: wayDown a (halfN b) ∧ lastAt a b = lastAt a (halfN b)) := fun hk => ⟨wayDown_right a b ha0 h hk, lastAt_right a b ha0 h hk⟩
      obtain ⟨k, hk⟩ : ∃ k, halfN b = k := ⟨_, rfl⟩
      rw [hk] at hk1 hk0 HSP HPL HPR
      clear hk
      go_wp2_with (fail)
      with_reducible refine (HSP.out _).mono ?_
      rintro e w2 ⟨rfl, rfl⟩
      by_cases hak : k < a
      · have hak' : decide ((a : Int) > (k : Int)) = true := by simp; omega
        have hak2 : (a : Int) > (k : Int) := by omega
        go_wp2_with (with_reducible refine bsL (y := true) (by with_unfolding_all exact rfl) ?_)
        intro g4 w4 hg4 k4 hU4
        have hO4 := HO.out.upd0 hU4
        have hb4 : B9 ≤ w4.heap.size := by have := hU4.size; omega
        go_wp2_with (with_reducible refine appendL (by with_unfolding_all exact rfl) (by with_unfolding_all exact rfl) hO4 k4 (by omega) hb4 ?_)
        intro v5 w5 hO5 hU5
        have hT5 := (HU.out.trans hU4).row hU5 (fun g hg => by have := (hO4.lt g hg).1; have := HB9.out; omega)
        have H5 := Lib.hid hO5
        have HT5 := Lib.hid hT5
        clear hO4 hO5 hT5 hU4 hU5 k4
        go_wp2_with (fail)
        go_roundw
        case rel => exact ⟨a - k, b - k, off + k, l ++ [true], by omega, by omega, by omega, by go_num, by go_num, by congr 1; simp; omega, H5.out, by have := HPP.out; rw [(HPL.out hak).1] at this; simpa using this, by have := HLA.out; rw [(HPL.out hak).2] at this; omega, HT5.out⟩
        case measure => simp [intOf]; omega
      · have hak' : decide ((a : Int) > (k : Int)) = false := by simp; omega
        have hak2 : ¬ ((a : Int) > (k : Int)) := by omega
        go_wp2_with (with_reducible refine bsL (y := false) (by with_unfolding_all exact rfl) ?_)
        intro g4 w4 hg4 k4 hU4
        have hO4 := HO.out.upd0 hU4
        have hb4 : B9 ≤ w4.heap.size := by have := hU4.size; omega
        go_wp2_with (with_reducible refine appendL (by with_unfolding_all exact rfl) (by with_unfolding_all exact rfl) hO4 k4 (by omega) hb4 ?_)
        intro v5 w5 hO5 hU5
        have hT5 := (HU.out.trans hU4).row hU5 (fun g hg => by have := (hO4.lt g hg).1; have := HB9.out; omega)
        have H5 := Lib.hid hO5
        have HT5 := Lib.hid hT5
        clear hO4 hO5 hT5 hU4 hU5 k4
        go_wp2_with (fail)
        go_roundw
        case rel => exact ⟨a, k, off, l ++ [false], ha0, by omega, by omega, by go_num, by go_num, rfl, H5.out, by have := HPP.out; rw [(HPR.out (by omega)).1] at this; simpa using this, by have := HLA.out; rw [(HPR.out (by omega)).2] at this; omega, HT5.out⟩
        case measure => simp [intOf]; omega
    · obtain rfl : a = b := by omega
      have h' : (a : Int) = (a : Int) := rfl
      have hl : l = S := by have := HPP.out; rw [wayDown_end _ _ (Nat.le_refl _), List.append_nil] at this; exact this
      subst hl
      have hoff : lastAt m n = off := by have := HLA.out; rw [lastAt_end _ _ (Nat.le_refl _)] at this; omega
      have HOFF := Lib.hid hoff
      obtain ⟨L, hL⟩ : ∃ L, l.length = L := ⟨_, rfl⟩
      have HL := Lib.hid hL
      obtain ⟨ua, uc, hda⟩ := HO.out.isSlice
      rw [hL] at hda
      have hLb : L ≤ 65536 := by omega
      have HO2 : Hid (OwnL wo B9 (.slice ua L uc) l) := by rw [← hda]; exact HO.out
      rw [hda]
      have k7 := HU.out.heap H7.out (by simp)
      have HK7 : Hid (∀ W, Upd [] wo W → ∃ t fr, W.heap[b7]? = some (.cells cl t fr)) := fun W hW => ⟨_, _, hW.heap k7 (by simp)⟩
      clear hda hL hoff h' HPP HLA k7
      go_upto_region 15 with (fail)
      go_cut [17, 18] (fun s17 s18 wx => ∃ b17 b18, s17 = .pointer (some ⟨b17, 0, none⟩) ∧ s18 = .pointer (some ⟨b18, 0, none⟩) ∧ wx.heap[b17]? = some (.cells cl 27 (0, 0)) ∧ wx.heap[b18]? = some (.cells cl 27 (0, 0)) ∧ b17 ≠ b18 ∧ wo.heap.size ≤ b17 ∧ wo.heap.size ≤ b18 ∧ Upd [] wo wx)
      case first =>
        refine wp_region_orders [0, 1] (.step 2 (.step 3 (.step 4 (.step 5 .none .none) .none) .none) (.step 3 (.step 2 (.step 4 (.step 5 .none .none) .none) .none) .none)) (Upd [] wo) (by kernel_rfl) (by kernel_rfl) ((Upd.refl _ _).drew) ?_
        refine takeO_cons _ (.agg cl) rfl (by kernel_rfl) (yields_row (by kernel_rfl) HK7.out Tryd.underlying27 rfl hsl0) ?_
        refine takeO_cons _ (.agg cl) rfl (by kernel_rfl) (yields_row (by kernel_rfl) HK7.out Tryd.underlying27 rfl hsl0) ?_
        refine takeO_nil (by simp [Ord.first]) ?_
        refine ordP_step _ (by simp only [List.getElem?_toArray, List.getElem?_cons_succ, List.getElem?_cons_zero]; rfl) ?_ ?_
        · with_reducible refine arm_alloc (zero_h32 _) ?_
          intro g17 wA hbA kA hUA hzA
          change wA.heap[g17]? = some (.cells (zrow8 32) 27 (0, 0)) at kA
          have hTA := (Upd.refl [] wo).drew.trans hUA
          have hlA : wo.heap.size ≤ g17 := by have h1 : wo.drew.heap.size = wo.heap.size := rfl; omega
          go_wp2_with fail
          refine ord_more (by simp [Ord.first]) hTA ?_
          refine ordP_step _ (by simp only [List.getElem?_toArray, List.getElem?_cons_succ, List.getElem?_cons_zero]; rfl) ?_ ordP_none
          with_reducible refine arm_alloc (zero_h32 _) ?_
          intro g18 wB hbB kB hUB hzB
          change wB.heap[g18]? = some (.cells (zrow8 32) 27 (0, 0)) at kB
          have kAB := hUB.heap kA (by simp)
          have hTB := hTA.trans hUB
          have hltA := lt_of_heap kA
          have hneAB : g17 ≠ g18 := by omega
          have hlB : wo.heap.size ≤ g18 := by have := hTA.size; omega
          go_wp2_with fail
          refine ord_more (by simp [Ord.first]) hTB ?_
          refine ordP_step _ (by simp only [List.getElem?_toArray, List.getElem?_cons_succ, List.getElem?_cons_zero]; rfl) ?_ ordP_none
          with_reducible refine arm_store (by kernel_rfl) (by kernel_rfl) kAB hsl0 hol0 hal0 ?_
          intro wC kC hXC hzC
          have kD0 := hXC.heap kB (by simp; omega)
          have hTC := hTB.trans' hXC (fun i hm hi => by simp at hm; omega)
          go_wp2_with fail
          refine ord_more (by simp [Ord.first]) hTC ?_
          refine ordP_step _ (by simp only [List.getElem?_toArray, List.getElem?_cons_succ, List.getElem?_cons_zero]; rfl) ?_ ordP_none
          with_reducible refine arm_store (by kernel_rfl) (by kernel_rfl) kD0 hsl0 hol0 hal0 ?_
          intro wD kD hXD hzD
          have kC0 := hXD.heap kC (by simp; omega)
          have hTD := hTC.trans' hXD (fun i hm hi => by simp at hm; omega)
          go_wp2_with fail
          refine ord_last hTD ?_
          show Exit.then _ _ Exit.normal _ _
          go_wp2_with fail
          go_meet
          exact ⟨g17, g18, rfl, rfl, kC0, kD, hneAB, by omega, by omega, hTD⟩
        refine ordP_step _ (by simp only [List.getElem?_toArray, List.getElem?_cons_succ, List.getElem?_cons_zero]; rfl) ?_ ordP_none
        with_reducible refine arm_alloc (zero_h32 _) ?_
        intro g18 wA hbA kA hUA hzA
        change wA.heap[g18]? = some (.cells (zrow8 32) 27 (0, 0)) at kA
        have hTA := (Upd.refl [] wo).drew.trans hUA
        have hlA : wo.heap.size ≤ g18 := by have h1 : wo.drew.heap.size = wo.heap.size := rfl; omega
        go_wp2_with fail
        refine ord_more (by simp [Ord.first]) hTA ?_
        refine ordP_step _ (by simp only [List.getElem?_toArray, List.getElem?_cons_succ, List.getElem?_cons_zero]; rfl) ?_ ordP_none
        with_reducible refine arm_alloc (zero_h32 _) ?_
        intro g17 wB hbB kB hUB hzB
        change wB.heap[g17]? = some (.cells (zrow8 32) 27 (0, 0)) at kB
        have kAB := hUB.heap kA (by simp)
        have hTB := hTA.trans hUB
        have hltA := lt_of_heap kA
        have hneAB : g17 ≠ g18 := by omega
        have hlB : wo.heap.size ≤ g17 := by have := hTA.size; omega
        go_wp2_with fail
        refine ord_more (by simp [Ord.first]) hTB ?_
        refine ordP_step _ (by simp only [List.getElem?_toArray, List.getElem?_cons_succ, List.getElem?_cons_zero]; rfl) ?_ ordP_none
        with_reducible refine arm_store (by kernel_rfl) (by kernel_rfl) kB hsl0 hol0 hal0 ?_
        intro wC kC hXC hzC
        have kD0 := hXC.heap kAB (by simp; omega)
        have hTC := hTB.trans' hXC (fun i hm hi => by simp at hm; omega)
        go_wp2_with fail
        refine ord_more (by simp [Ord.first]) hTC ?_
        refine ordP_step _ (by simp only [List.getElem?_toArray, List.getElem?_cons_succ, List.getElem?_cons_zero]; rfl) ?_ ordP_none
        with_reducible refine arm_store (by kernel_rfl) (by kernel_rfl) kD0 hsl0 hol0 hal0 ?_
        intro wD kD hXD hzD
        have kC0 := hXD.heap kC (by simp; omega)
        have hTD := hTC.trans' hXD (fun i hm hi => by simp at hm; omega)
        go_wp2_with fail
        refine ord_last hTD ?_
        show Exit.then _ _ Exit.normal _ _
        go_wp2_with fail
        go_meet
        exact ⟨g17, g18, rfl, rfl, kC0, kD, hneAB, by omega, by omega, hTD⟩
      case rest =>
        obtain ⟨b17, b18, rfl, rfl, k17, k18, hne78, hl17, hl18, hVx⟩ := hcut
        have HVx := Lib.hid hVx
        have hob : ∀ k, (Value.slice ua L uc).ownBlock = some k → k < wo.heap.size := fun k hk => (HO2.out.lt k hk).2
        have hO3 := HO2.out.upd0 hVx
        have HO3 := Lib.hid hO3
        have HOB := Lib.hid hob
        have hV3 := (HV9.out.trans HU.out).trans hVx
        have HV3 := Lib.hid hV3
        have hBw : B ≤ wo.heap.size := by have := hBB9.out; omega
        have h7w : b7 < wo.heap.size := by omega
        have h8w : b8 < wo.heap.size := by omega
        have K7 := Lib.hid ((HU.out.trans hVx).heap H7.out (by simp))
        have K8 := Lib.hid ((HU.out.trans hVx).heap H8'.out (by simp))
        have K17 := Lib.hid k17
        have K18 := Lib.hid k18
        clear hVx hob hO3 hV3 k17 k18
        by_cases hwh : off = 0
        · have hwt : decide (off = 0) = true := by simp [hwh]
          have hSC : startC old P (lastAt m n == 0) = some (old, P) := by rw [HOFF.out, hwh]; rfl
          rw [hwt]
          clear hwt hwh
          have HSC := Lib.hid hSC
          have HPw := Lib.hid (HP.out.upd0 HV3.out)
          clear hSC
          obtain ⟨w20, rfl⟩ : ∃ W : World, W = wc := ⟨_, rfl⟩
          have HQW := Lib.hid (HPw.out)
          by_cases hlen : pn = L
          · subst hlen
            have hnel : ((pn : Int) != (pn : Int)) = false := by simp
            have H17 : Hid (w20.heap[b17]? = some (.cells ((crossH (old, old) (l.reverse.take 0) (P.take 0)).1.map U8).toArray 27 (0, 0))) := by
              show w20.heap[b17]? = _
              simp only [List.take_zero, crossH]; rw [HCL.out]; exact K17.out
            have H18 : Hid (w20.heap[b18]? = some (.cells ((crossH (old, old) (l.reverse.take 0) (P.take 0)).2.map U8).toArray 27 (0, 0))) := by
              show w20.heap[b18]? = _
              simp only [List.take_zero, crossH]; rw [HCL.out]; exact K18.out
            have HTK2 : Hid (takenC m n old root P = ((crossH (old, old) l.reverse P).1 == old && (crossH (old, old) l.reverse P).2 == root)) := by
              have h1 := HTK.out
              rw [HSC.out] at h1
              have h2 := HM.out
              have h3 := HL.out
              simp only [h2, h3, beq_self_eq_true, Bool.true_and] at h1
              exact h1
            obtain ⟨R, hR⟩ : ∃ R, l.reverse = R := ⟨_, rfl⟩
            have HRL : Hid (∀ q (h1 : q < R.length) (h2 : pn - 1 - q < l.length), l[pn - 1 - q] = R[q]) := fun q h1 h2 => by
              have h3 := HL.out
              subst hR
              rw [List.getElem_reverse]
              congr 1
              omega
            have HSR : Hid (R.length = pn) := by rw [← hR, List.length_reverse]; exact HL.out
            rw [hR] at HTK2 H17 H18
            clear hR
            go_wp2_with (fail)
            go_loopw [86] (fun iv wr => ∃ q : Nat, q ≤ pn ∧ iv = .int .i64 q ∧ wr.heap[b17]? = some (.cells ((crossH (old, old) (R.take q) (P.take q)).1.map U8).toArray 27 (0, 0)) ∧ wr.heap[b18]? = some (.cells ((crossH (old, old) (R.take q) (P.take q)).2.map U8).toArray 27 (0, 0)) ∧ Upd [b17, b18] w20 wr) (fun iv _ => pn - (intOf iv).toNat)
            case atStart => exact ⟨0, by omega, rfl, H17.out, H18.out, Upd.refl _ _⟩
            case round =>
              obtain ⟨q, hq, rfl, k17, k18, hU2⟩ := hrel
              have HU2 := Lib.hid hU2
              obtain ⟨wp, rfl⟩ : ∃ wp : World, wp = wr := ⟨_, rfl⟩
              have hV : Upd [] w wp := HV3.out.trans' hU2 (fun i hm hi => by have := HB.out; simp at hm; omega)
              have HV := Lib.hid hV
              clear hU2 hV
              by_cases h : q < pn
              · have h' : (q : Int) < (pn : Int) := by omega
                have hqR : q < R.length := by rw [HSR.out]; exact h
                have hqP : q < P.length := by rw [HM.out]; exact h
                have HST := Lib.hid (crossH_take (old, old) R P q hqR hqP)
                have hHl := crossH_len (R.take q) (P.take q) (old, old) HL32.out HL32.out
                have hHl2 := crossH_len (R.take (q + 1)) (P.take (q + 1)) (old, old) HL32.out HL32.out
                have hOw : OwnL wp B9 (.slice ua pn uc) l := HO3.out.upd HU2.out (fun k hk => by have := HOB.out k hk; simp; omega)
                obtain ⟨ga, capa, hga, _, _, _, _⟩ := hOw.at (by rw [HL.out]; omega)
                injection hga with e1 e2 e3
                subst e1
                obtain ⟨r, hr⟩ : ∃ r, pn - 1 - q = r := ⟨_, rfl⟩
                have hrl : r < l.length := by rw [HL.out]; omega
                have hcb := hOw.cell r hrl
                have hrr : l[r]'hrl = R[q]'hqR := by have := HRL.out q hqR (by rw [hr]; exact hrl); simpa only [hr] using this
                have hr' : (pn : Int) - 1 - (q : Int) = (r : Int) := by omega
                have hrn : r < pn := by omega
                have hPw : RdH wp (.slice A pn c) P := HQW.out.upd HU2.out (fun h1 k hk => by have := HPLT.out h1 k hk; have := HB.out; simp; omega)
                obtain ⟨g1, p1, c1', e0', _, _, _⟩ := hPw.at (by omega)
                injection e0' with e7 e8 e9
                rw [e7] at hPw ⊢
                have hel := hPw.elem q hqP
                have hxl : (P[q]'hqP).length = 32 := hPw.1 _ (List.getElem_mem hqP)
                rw [hrr] at hcb
                obtain ⟨y, hy⟩ : ∃ y, R[q]'hqR = y := ⟨_, rfl⟩
                obtain ⟨x, hx⟩ : ∃ x, P[q]'hqP = x := ⟨_, rfl⟩
                obtain ⟨H, hH⟩ : ∃ H, crossH (old, old) (R.take q) (P.take q) = H := ⟨_, rfl⟩
                obtain ⟨H2, hH2⟩ : ∃ H, crossH (old, old) (R.take (q + 1)) (P.take (q + 1)) = H := ⟨_, rfl⟩
                obtain ⟨Ha, Hb⟩ := H
                obtain ⟨H2a, H2b⟩ := H2
                rw [hy] at hcb
                rw [hx] at hel hxl
                rw [hH] at k17 k18 hHl
                rw [hH2] at hHl2
                have hst : (H2a, H2b) = (if y = true then (nodeH x Ha, nodeH x Hb) else (Ha, nodeH Hb x)) := by have := HST.out; rw [hH2, hH, hy, hx] at this; exact this
                have hHa : Ha.length = 32 := hHl.1
                have hHb : Hb.length = 32 := hHl.2
                have hH2a : H2a.length = 32 := hHl2.1
                have hH2b : H2b.length = 32 := hHl2.2
                have hsa := szrow hHa
                have hsb := szrow hHb
                have hsx := szlist hxl
                have hsx2 := szrow hxl
                have hox := sameZ hxl
                have hax := oneAll x
                have hs2a := szrow hH2a
                have hs2b := szrow hH2b
                have ha2a := oneAll H2a
                have ha2b := oneAll H2b
                have hoa : ((Ha.map U8).toArray).size = ((H2a.map U8).toArray).size := by simp [hHa, hH2a]
                have hob2 : ((Hb.map U8).toArray).size = ((H2b.map U8).toArray).size := by simp [hHb, hH2b]
                have HNA : Hid (y = true → ∀ W, Upd [] wp W → Calls Tryd.prog 20 #[.agg (x.map U8).toArray, .agg (Ha.map U8).toArray] W fun e w' => e = .returned (.agg (H2a.map U8).toArray) ∧ Upd [] W w') := fun hyt W hW => by
                  rw [if_pos hyt] at hst
                  injection hst with h1 h2
                  rw [h1]
                  exact node_ W x Ha hxl hHa (HG.out.upd (HV.out.trans hW) (by simp)) (HF.out.upd (HV.out.trans hW) (by simp))
                have HNB : Hid (y = true → ∀ W, Upd [] wp W → Calls Tryd.prog 20 #[.agg (x.map U8).toArray, .agg (Hb.map U8).toArray] W fun e w' => e = .returned (.agg (H2b.map U8).toArray) ∧ Upd [] W w') := fun hyt W hW => by
                  rw [if_pos hyt] at hst
                  injection hst with h1 h2
                  rw [h2]
                  exact node_ W x Hb hxl hHb (HG.out.upd (HV.out.trans hW) (by simp)) (HF.out.upd (HV.out.trans hW) (by simp))
                have HNC : Hid (y = false → (Ha = H2a) ∧ ∀ W, Upd [] wp W → Calls Tryd.prog 20 #[.agg (Hb.map U8).toArray, .agg (x.map U8).toArray] W fun e w' => e = .returned (.agg (H2b.map U8).toArray) ∧ Upd [] W w') := fun hyt => by
                  rw [if_neg (by simp [hyt])] at hst
                  injection hst with h1 h2
                  refine ⟨h1.symm, fun W hW => ?_⟩
                  rw [h2]
                  exact node_ W Hb x hHb hxl (HG.out.upd (HV.out.trans hW) (by simp)) (HF.out.upd (HV.out.trans hW) (by simp))
                have HC2 := Lib.hid (show ((crossH (old, old) (R.take (q + 1)) (P.take (q + 1))).1.map U8).toArray = (H2a.map U8).toArray ∧ ((crossH (old, old) (R.take (q + 1)) (P.take (q + 1))).2.map U8).toArray = (H2b.map U8).toArray by rw [hH2]; exact ⟨rfl, rfl⟩)
                obtain ⟨lx, hlx⟩ : ∃ l, x.map U8 = l := ⟨_, rfl⟩
                obtain ⟨ca, hca⟩ : ∃ c, (Ha.map U8).toArray = c := ⟨_, rfl⟩
                obtain ⟨cb, hcb'⟩ : ∃ c, (Hb.map U8).toArray = c := ⟨_, rfl⟩
                obtain ⟨c2a, hc2a⟩ : ∃ c, (H2a.map U8).toArray = c := ⟨_, rfl⟩
                obtain ⟨c2b, hc2b⟩ : ∃ c, (H2b.map U8).toArray = c := ⟨_, rfl⟩
                have HAA : Hid (Ha = H2a → ca = c2a) := fun h => by rw [← hca, ← hc2a, h]
                rw [hlx] at hel hsx hsx2 hax hox HNA HNB HNC
                rw [hca] at k17 hsa hoa HNA
                rw [hcb'] at k18 hsb hob2 HNB HNC
                rw [hc2a] at hs2a hoa ha2a HNA HC2
                rw [hc2b] at hs2b hob2 ha2b HNB HNC HC2
                have HEL := Lib.hid hel
                have K17' := Lib.hid k17
                have K18' := Lib.hid k18
                have h1718 : b17 < wp.heap.size ∧ b18 < wp.heap.size := ⟨lt_of_heap k17, lt_of_heap k18⟩
                clear hOw e2 e3 e7 e8 e9 hPw hel hxl hy hx hH hH2 hHl hHl2 hst hlx hca hcb' hc2a hc2b k17 k18 hHa hHb hH2a hH2b hr hrl hrr
                go_wp2_with (first
                  | (with_reducible refine arm_load_mid (k := p1 + q * 32) (by with_unfolding_all exact rfl) HEL.out Tryd.underlying27 rfl hsx ?_)
                  | (with_reducible refine arm_alloc (zero_h32 _) ?_))
                intro b20 w21 hb20 k20 hU21 hz21
                change w21.heap[b20]? = some (.cells (zrow8 32) 27 (0, 0)) at k20
                go_wp2_with (with_reducible refine arm_store (by with_unfolding_all exact rfl) (by with_unfolding_all exact rfl) k20 hsx2 hox hax ?_)
                intro w22 k22 hX22 hz22
                have hT22 := hU21.fresh hb20 hX22
                have hcb22 := hT22.cell hcb (by simp)
                have k17b := hT22.heap K17'.out (by simp)
                have k18b := hT22.heap K18'.out (by simp)
                have HQ20 : Hid (∀ W, Upd [] w22 W → ∃ t fr, W.heap[b20]? = some (.cells lx.toArray t fr)) := fun W hW => ⟨_, _, hW.heap k22 (by simp)⟩
                have HQ17 : Hid (∀ W, Upd [] w22 W → ∃ t fr, W.heap[b17]? = some (.cells ca t fr)) := fun W hW => ⟨_, _, hW.heap k17b (by simp)⟩
                have HQ18 : Hid (∀ W, Upd [] w22 W → ∃ t fr, W.heap[b18]? = some (.cells cb t fr)) := fun W hW => ⟨_, _, hW.heap k18b (by simp)⟩
                have K17b := Lib.hid k17b
                have K18b := Lib.hid k18b
                have K22 := Lib.hid k22
                have HT22 := Lib.hid hT22
                have hcb21 := hcb
                clear hb20 k20 hU21 hz21 k22 hX22 hz22 hT22 k17b k18b hcb hcb21
                cases y with
                | true =>
                  have HN1 := Lib.hid (HNA.out rfl)
                  have HN2 := Lib.hid (HNB.out rfl)
                  clear HNA HNB HNC
                  go_wp2_with (fail)
                  refine wp_region_quiet_tail 6 (Upd [] w22) (by kernel_rfl) (by kernel_rfl) (Upd.refl _ _).drew ?_
                  simp only [List.take_succ_cons, List.take_zero, List.drop_succ_cons, List.drop_zero]
                  repeat (first
                    | (refine wpQuiet_val rfl (quiet_load_row 27 _ rfl b20 rfl _ HQ20.out Tryd.underlying27 rfl hsx2) ?_)
                    | (refine wpQuiet_val rfl (quiet_load_row 27 _ rfl b17 rfl _ HQ17.out Tryd.underlying27 rfl hsa) ?_)
                    | (refine wpQuiet_val rfl (quiet_load_row 27 _ rfl b18 rfl _ HQ18.out Tryd.underlying27 rfl hsb) ?_)
                    | (refine wpQuiet_step (fun K hK => ?_)
                       go_simp
                       first
                         | (refine ⟨_, fun _ _ => rfl, hK _ ?_⟩; clear hK K)
                         | ((with_reducible refine ⟨_, fun w2 hw2 => (HN1.out w2 (HT22.out.trans hw2)).mono (fun e w' h => ⟨h.1, hw2.trans h.2⟩), hK _ ?_⟩); clear hK K)
                         | ((with_reducible refine ⟨_, fun w2 hw2 => (HN2.out w2 (HT22.out.trans hw2)).mono (fun e w' h => ⟨h.1, hw2.trans h.2⟩), hK _ ?_⟩); clear hK K)
                         | (refine hK _ ?_; clear hK K)))
                  refine wpQuiet_nil ?_
                  intro w25 hU25
                  have k17c := hU25.heap K17b.out (by simp)
                  go_wp2_with (with_reducible refine arm_store (by with_unfolding_all exact rfl) (by with_unfolding_all exact rfl) k17c hs2a hoa ha2a ?_)
                  intro w26 k26 hX26 hz26
                  have k18c := hX26.heap (hU25.heap K18b.out (by simp)) (by simp; omega)
                  go_wp2_with (with_reducible refine arm_store (by with_unfolding_all exact rfl) (by with_unfolding_all exact rfl) k18c hs2b hob2 ha2b ?_)
                  intro w27 k27 hX27 hz27
                  have k17d := hX27.heap k26 (by simp; omega)
                  have hT27 := (((HU2.out.trans0 HT22.out).trans0 hU25).trans (hX26.mono (T := [b17, b18]) (fun i hm _ => by simp at hm; simp [hm]))).trans (hX27.mono (T := [b17, b18]) (fun i hm _ => by simp at hm; simp [hm]))
                  have K17e := Lib.hid k17d
                  have K18e := Lib.hid k27
                  have HT27 := Lib.hid hT27
                  clear k17c k26 hX26 hz26 k18c k27 hX27 hz27 k17d hT27 hU25
                  go_wp2_with (fail)
                  go_roundw
                  case rel => exact ⟨q + 1, by omega, by go_num, by rw [HC2.out.1]; exact K17e.out, by rw [HC2.out.2]; exact K18e.out, HT27.out⟩
                  case measure => simp [intOf]; omega
                | false =>
                  obtain ⟨hae, hnc⟩ := HNC.out rfl
                  obtain rfl := HAA.out hae
                  have HN1 := Lib.hid hnc
                  clear HNA HNB HNC hae hnc HAA
                  have k18c := K18b.out
                  have k22c := K22.out
                  go_wp2_with (first | (with_reducible refine arm_load (by with_unfolding_all exact rfl) k18c Tryd.underlying27 (by with_unfolding_all exact rfl) hsb ?_) | (with_reducible refine arm_load (by with_unfolding_all exact rfl) k22c Tryd.underlying27 (by with_unfolding_all exact rfl) hsx2 ?_))
                  with_reducible refine (HN1.out _ HT22.out).mono ?_
                  rintro e w25 ⟨rfl, hU25⟩
                  have k18d := hU25.heap K18b.out (by simp)
                  clear k18c k22c
                  go_wp2_with (with_reducible refine arm_store (by with_unfolding_all exact rfl) (by with_unfolding_all exact rfl) k18d hs2b hob2 ha2b ?_)
                  intro w27 k27 hX27 hz27
                  have k17d := hX27.heap (hU25.heap K17b.out (by simp)) (by simp; omega)
                  have hT27 := ((HU2.out.trans0 HT22.out).trans0 hU25).trans (hX27.mono (T := [b17, b18]) (fun i hm _ => by simp at hm; simp [hm]))
                  have K17e := Lib.hid k17d
                  have K18e := Lib.hid k27
                  have HT27 := Lib.hid hT27
                  clear k27 hX27 hz27 k17d hT27 hU25 k18d
                  go_wp2_with (fail)
                  go_roundw
                  case rel => exact ⟨q + 1, by omega, by go_num, by rw [HC2.out.1]; exact K17e.out, by rw [HC2.out.2]; exact K18e.out, HT27.out⟩
                  case measure => simp [intOf]; omega
              · obtain rfl : q = pn := by omega
                have h' : ¬ ((q : Int) < (q : Int)) := by omega
                have hR2 : R.take q = R := List.take_of_length_le (by rw [HSR.out]; omega)
                have hP2 : P.take q = P := List.take_of_length_le (by rw [HM.out]; omega)
                rw [hR2, hP2] at k17 k18
                have hHl := crossH_len R P (old, old) HL32.out HL32.out
                obtain ⟨F, hF⟩ : ∃ F, crossH (old, old) R P = F := ⟨_, rfl⟩
                obtain ⟨Fa, Fb⟩ := F
                rw [hF] at k17 k18 hHl HTK2
                have hFa : Fa.length = 32 := hHl.1
                have hFb : Fb.length = 32 := hHl.2
                have hq1 := fun W => eql_h32 Fa old hFa HL32.out W
                have hq2 := fun W => eql_h32 Fb root hFb HR32.out W
                rw [HCL.out] at hq1
                rw [HCT.out] at hq2
                have hsFa := szrow hFa
                have hsFb := szrow hFb
                obtain ⟨ca, hca⟩ : ∃ c, (Fa.map U8).toArray = c := ⟨_, rfl⟩
                obtain ⟨cb, hcb⟩ : ∃ c, (Fb.map U8).toArray = c := ⟨_, rfl⟩
                rw [hca] at hq1 hsFa
                rw [hcb] at hq2 hsFb
                have k17' : wp.heap[b17]? = some (.cells ca 27 (0, 0)) := by rw [← hca]; exact k17
                have k18' : wp.heap[b18]? = some (.cells cb 27 (0, 0)) := by rw [← hcb]; exact k18
                have k7 := HU2.out.heap K7.out (by simp; omega)
                have k8 := HU2.out.heap K8.out (by simp; omega)
                obtain ⟨x1, hx1⟩ : ∃ b, (Fa == old) = b := ⟨_, rfl⟩
                obtain ⟨x2, hx2⟩ : ∃ b, (Fb == root) = b := ⟨_, rfl⟩
                have hres : takenC m n old root P = (x1 && x2) := by rw [← hx1, ← hx2]; exact HTK2.out
                rw [hx1] at hq1
                rw [hx2] at hq2
                have HRES := Lib.hid hres
                clear hR2 hP2 hF hHl hFa hFb hca hcb k17 k18 hx1 hx2 hres
                cases x1 with
                | true =>
                  go_wp2_with (first
                    | (with_reducible refine arm_load (by with_unfolding_all exact rfl) k17' Tryd.underlying27 (by with_unfolding_all exact rfl) hsFa ?_)
                    | (with_reducible refine arm_load (by with_unfolding_all exact rfl) k7 Tryd.underlying27 (by with_unfolding_all exact rfl) hsl0 ?_)
                    | (with_reducible refine arm_load_g (by with_unfolding_all exact rfl) (by with_unfolding_all exact rfl) k18' Tryd.underlying27 (by with_unfolding_all exact rfl) hsFb ?_)
                    | (with_reducible refine arm_load_g (by with_unfolding_all exact rfl) (by with_unfolding_all exact rfl) k8 Tryd.underlying27 (by with_unfolding_all exact rfl) hsr0 ?_))
                  go_ret
                  exact ⟨ret_eq (by rw [HRES.out]; rfl), HV.out⟩
                | false =>
                  go_wp2_with (first
                    | (with_reducible refine arm_load (by with_unfolding_all exact rfl) k17' Tryd.underlying27 (by with_unfolding_all exact rfl) hsFa ?_)
                    | (with_reducible refine arm_load (by with_unfolding_all exact rfl) k7 Tryd.underlying27 (by with_unfolding_all exact rfl) hsl0 ?_))
                  go_ret
                  exact ⟨ret_eq (by rw [HRES.out]; rfl), HV.out⟩
          · have hnel : ((pn : Int) != (L : Int)) = true := by simp; omega
            have hres : takenC m n old root P = false := by
              rw [HTK.out, HSC.out]
              have h2 := HM.out
              have h3 := HL.out
              simp [h2, h3, hlen]
            have HRES := Lib.hid hres
            clear hres
            go_wp2_with (fail)
            go_ret
            exact ⟨ret_eq (by rw [HRES.out]; rfl), HV3.out⟩
        · have hwd : decide (off = 0) = false := by simp [hwh]
          rw [hwd]
          have hSC : startC old P (lastAt m n == 0) = startC old P false := by rw [HOFF.out, show (off == 0) = false by simp [hwh]]
          clear hwd hwh
          rcases P with _ | ⟨p, Q⟩
          · obtain rfl : pn = 0 := by have := HM.out; simpa using this.symm
            have hres : takenC m n old root [] = false := by rw [HTK.out, hSC]; rfl
            have HRES := Lib.hid hres
            clear hres hSC HTK
            go_wp2_with (fail)
            go_ret
            exact ⟨ret_eq (by rw [HRES.out]; rfl), HV3.out⟩
          · have hP0 := HP.out
            have hm1 := HM.out
            have hpn : ¬ ((pn : Int) = 0) := by rw [← hm1]; simp; omega
            have hpn1 : 1 ≤ pn := by rw [← hm1]; simp
            obtain ⟨g0, p0, c0, e0, _, _, _⟩ := hP0.at (by simp)
            rw [hm1] at e0
            injection e0 with e4 e5 e6
            have hP1 := hP0
            rw [e4] at hP1 ⊢
            have hel := hP1.elem 0 (by simp)
            simp only [Nat.zero_mul, Nat.add_zero, List.getElem_cons_zero] at hel
            have hpl32 : p.length = 32 := hP1.1 p (by simp)
            have hg0 : g0 < w.heap.size := hP1.lt (by simp) g0 rfl
            obtain ⟨BR, hcut2, hvR⟩ := hP1.cut2 1 pn (some (.int .i64 1)) none (.inr rfl) (.inl ⟨rfl, rfl⟩) hpn1 (Nat.le_refl _)
            rw [List.take_of_length_le (by rw [hm1]; exact Nat.le_refl _)] at hvR
            simp only [List.drop_succ_cons, List.drop_zero] at hvR
            obtain ⟨m2, hm2⟩ : ∃ x, pn - 1 = x := ⟨_, rfl⟩
            obtain ⟨c2, hc2'⟩ : ∃ x, c - 1 = x := ⟨_, rfl⟩
            rw [hm2, hc2'] at hcut2 hvR
            have hQl : Q.length = m2 := by rw [← hm2, ← hm1]; simp
            have hsp := szlist hpl32
            have hsp2 := szrow hpl32
            have hap := oneAll p
            have hol1 : cl.size = ((p.map U8).toArray).size := by rw [← HCL.out]; simp [HL32.out, hpl32]
            obtain ⟨lp, hlp⟩ : ∃ l, p.map U8 = l := ⟨_, rfl⟩
            rw [hlp] at hel hsp hsp2 hap hol1
            have HE : Hid (∀ W, Upd [b17, b18] wc W → W.rangeAt g0 p0 lp) := fun W hW j v hj => hW.cell (HV3.out.cell (hel j v hj) (by simp)) (by have := HB.out; simp; omega)
            have HCUT2 := Lib.hid hcut2
            have HQLT := Lib.hid hvR.lt
            have HVR := Lib.hid (hvR.upd0 HV3.out)
            have HLPC := Lib.hid (show (p.map U8).toArray = lp.toArray by rw [hlp])
            have HQL := Lib.hid hQl
            have HP32 := Lib.hid hpl32
            have HSC := Lib.hid (show startC old (p :: Q) (lastAt m n == 0) = some (p, Q) from hSC)
            have hm2b : m2 ≤ 1000000 := by omega
            clear hcut2 hvR hlp hQl hel hP0 hP1 e4 e5 e6 hm1 hSC hm2 hc2' hpl32
            go_upto_region 19 with (fail)
            refine wp_region_orders [0, 1, 2, 3, 4, 5, 6, 7] (.step 8 (.step 9 (.step 10 .none .none) .none) .none) (Upd [b17, b18] wc) (by kernel_rfl) (by kernel_rfl) ((Upd.refl _ _).drew) ?_
            refine takeO_cons _ (.slice (some ⟨g0, p0, none⟩) pn c) rfl (by kernel_rfl) (yields_move (by kernel_rfl)) ?_
            refine takeO_cons _ (.pointer (some ⟨g0, p0, none⟩)) rfl (by kernel_rfl) (yields_index (i := 0) (o := p0) (n := pn) (c := c) (u := 0) Tryd.underlying25 elem_hashes size_hash0 (by kernel_rfl) (by kernel_rfl) rfl (by omega : 0 < pn) (by omega)) ?_
            refine takeO_cons _ (.agg lp.toArray) rfl (by kernel_rfl) (yields_mid (by kernel_rfl) HE.out Tryd.underlying27 rfl hsp) ?_
            refine takeO_cons _ (.slice (some ⟨g0, p0, none⟩) pn c) rfl (by kernel_rfl) (yields_move (by kernel_rfl)) ?_
            refine takeO_cons _ (.pointer (some ⟨g0, p0, none⟩)) rfl (by kernel_rfl) (yields_index (i := 0) (o := p0) (n := pn) (c := c) (u := 0) Tryd.underlying25 elem_hashes size_hash0 (by kernel_rfl) (by kernel_rfl) rfl (by omega : 0 < pn) (by omega)) ?_
            refine takeO_cons _ (.agg lp.toArray) rfl (by kernel_rfl) (yields_mid (by kernel_rfl) HE.out Tryd.underlying27 rfl hsp) ?_
            refine takeO_cons _ (.slice (some ⟨g0, p0, none⟩) pn c) rfl (by kernel_rfl) (yields_move (by kernel_rfl)) ?_
            refine takeO_cons _ (.slice BR m2 c2) rfl (by kernel_rfl) (yields_slice (by kernel_rfl) (by kernel_rfl) (by kernel_rfl) (by kernel_rfl) HCUT2.out) ?_
            refine takeO_nil (by simp [Ord.first]) ?_
            refine ordP_step _ (by simp only [List.getElem?_toArray, List.getElem?_cons_succ, List.getElem?_cons_zero]; rfl) ?_ ordP_none
            with_reducible refine arm_store (by kernel_rfl) (by kernel_rfl) K17.out hsp2 hol1 hap ?_
            intro wC kC hXC hzC
            have kD0 := hXC.heap K18.out (by simp; omega)
            have hTC := (Upd.refl [b17, b18] wc).drew.trans (hXC.mono (T := [b17, b18]) (fun i hm _ => by simp at hm; simp [hm]))
            go_wp2_with fail
            refine ord_more (by simp [Ord.first]) hTC ?_
            refine ordP_step _ (by simp only [List.getElem?_toArray, List.getElem?_cons_succ, List.getElem?_cons_zero]; rfl) ?_ ordP_none
            with_reducible refine arm_store (by kernel_rfl) (by kernel_rfl) kD0 hsp2 hol1 hap ?_
            intro wD kD hXD hzD
            have kC0 := hXD.heap kC (by simp; omega)
            have hTD := hTC.trans (hXD.mono (T := [b17, b18]) (fun i hm _ => by simp at hm; simp [hm]))
            go_wp2_with fail
            refine ord_more (by simp [Ord.first]) hTD ?_
            refine ordP_step _ (by simp only [List.getElem?_toArray, List.getElem?_cons_succ, List.getElem?_cons_zero]; rfl) ?_ ordP_none
            go_wp2_with fail
            refine ord_last hTD ?_
            show Exit.then _ _ Exit.normal _ _
            have hV4 := HV3.out.trans' hTD (fun i hm hi => by have := HB.out; simp at hm; omega)
            have HV3 := Lib.hid hV4
            have HO3 := Lib.hid (HO3.out.upd hTD (fun k hk => by have := HOB.out k hk; simp; omega))
            have K7 := Lib.hid (hTD.heap K7.out (by simp; omega))
            have K8 := Lib.hid (hTD.heap K8.out (by simp; omega))
            have K17 := Lib.hid kC0
            have K18 := Lib.hid kD
            have HPw := Lib.hid (HVR.out.upd hTD (fun h1 k hk => by have := HQLT.out h1 k hk; have := HB.out; simp; omega))
            clear kC hXC hzC kD0 hTC kD hXD hzD kC0 hTD hV4
            obtain ⟨w20, rfl⟩ : ∃ W : World, W = wD := ⟨_, rfl⟩
            have HQW := Lib.hid (HPw.out)
            by_cases hlen : m2 = L
            · subst hlen
              have hnel : ((m2 : Int) != (m2 : Int)) = false := by simp
              have H17 : Hid (w20.heap[b17]? = some (.cells ((crossH (p, p) (l.reverse.take 0) (Q.take 0)).1.map U8).toArray 27 (0, 0))) := by
                show w20.heap[b17]? = _
                simp only [List.take_zero, crossH]; rw [HLPC.out]; exact K17.out
              have H18 : Hid (w20.heap[b18]? = some (.cells ((crossH (p, p) (l.reverse.take 0) (Q.take 0)).2.map U8).toArray 27 (0, 0))) := by
                show w20.heap[b18]? = _
                simp only [List.take_zero, crossH]; rw [HLPC.out]; exact K18.out
              have HTK2 : Hid (takenC m n old root (p :: Q) = ((crossH (p, p) l.reverse Q).1 == old && (crossH (p, p) l.reverse Q).2 == root)) := by
                have h1 := HTK.out
                rw [HSC.out] at h1
                have h2 := HQL.out
                have h3 := HL.out
                simp only [h2, h3, beq_self_eq_true, Bool.true_and] at h1
                exact h1
              obtain ⟨R, hR⟩ : ∃ R, l.reverse = R := ⟨_, rfl⟩
              have HRL : Hid (∀ q (h1 : q < R.length) (h2 : m2 - 1 - q < l.length), l[m2 - 1 - q] = R[q]) := fun q h1 h2 => by
                have h3 := HL.out
                subst hR
                rw [List.getElem_reverse]
                congr 1
                omega
              have HSR : Hid (R.length = m2) := by rw [← hR, List.length_reverse]; exact HL.out
              rw [hR] at HTK2 H17 H18
              clear hR
              go_wp2_with (fail)
              go_loopw [86] (fun iv wr => ∃ q : Nat, q ≤ m2 ∧ iv = .int .i64 q ∧ wr.heap[b17]? = some (.cells ((crossH (p, p) (R.take q) (Q.take q)).1.map U8).toArray 27 (0, 0)) ∧ wr.heap[b18]? = some (.cells ((crossH (p, p) (R.take q) (Q.take q)).2.map U8).toArray 27 (0, 0)) ∧ Upd [b17, b18] w20 wr) (fun iv _ => m2 - (intOf iv).toNat)
              case atStart => exact ⟨0, by omega, rfl, H17.out, H18.out, Upd.refl _ _⟩
              case round =>
                obtain ⟨q, hq, rfl, k17, k18, hU2⟩ := hrel
                have HU2 := Lib.hid hU2
                obtain ⟨wp, rfl⟩ : ∃ wp : World, wp = wr := ⟨_, rfl⟩
                have hV : Upd [] w wp := HV3.out.trans' hU2 (fun i hm hi => by have := HB.out; simp at hm; omega)
                have HV := Lib.hid hV
                clear hU2 hV
                by_cases h : q < m2
                · have h' : (q : Int) < (m2 : Int) := by omega
                  have hqR : q < R.length := by rw [HSR.out]; exact h
                  have hqP : q < Q.length := by rw [HQL.out]; exact h
                  have HST := Lib.hid (crossH_take (p, p) R Q q hqR hqP)
                  have hHl := crossH_len (R.take q) (Q.take q) (p, p) HP32.out HP32.out
                  have hHl2 := crossH_len (R.take (q + 1)) (Q.take (q + 1)) (p, p) HP32.out HP32.out
                  have hOw : OwnL wp B9 (.slice ua m2 uc) l := HO3.out.upd HU2.out (fun k hk => by have := HOB.out k hk; simp; omega)
                  obtain ⟨ga, capa, hga, _, _, _, _⟩ := hOw.at (by rw [HL.out]; omega)
                  injection hga with e1 e2 e3
                  subst e1
                  obtain ⟨r, hr⟩ : ∃ r, m2 - 1 - q = r := ⟨_, rfl⟩
                  have hrl : r < l.length := by rw [HL.out]; omega
                  have hcb := hOw.cell r hrl
                  have hrr : l[r]'hrl = R[q]'hqR := by have := HRL.out q hqR (by rw [hr]; exact hrl); simpa only [hr] using this
                  have hr' : (m2 : Int) - 1 - (q : Int) = (r : Int) := by omega
                  have hrn : r < m2 := by omega
                  have hPw : RdH wp (.slice BR m2 c2) Q := HQW.out.upd HU2.out (fun h1 k hk => by have := HQLT.out h1 k hk; have := HB.out; simp; omega)
                  obtain ⟨g1, p1, c1', e0', _, _, _⟩ := hPw.at (by omega)
                  injection e0' with e7 e8 e9
                  rw [e7] at hPw ⊢
                  have hel := hPw.elem q hqP
                  have hxl : (Q[q]'hqP).length = 32 := hPw.1 _ (List.getElem_mem hqP)
                  rw [hrr] at hcb
                  obtain ⟨y, hy⟩ : ∃ y, R[q]'hqR = y := ⟨_, rfl⟩
                  obtain ⟨x, hx⟩ : ∃ x, Q[q]'hqP = x := ⟨_, rfl⟩
                  obtain ⟨H, hH⟩ : ∃ H, crossH (p, p) (R.take q) (Q.take q) = H := ⟨_, rfl⟩
                  obtain ⟨H2, hH2⟩ : ∃ H, crossH (p, p) (R.take (q + 1)) (Q.take (q + 1)) = H := ⟨_, rfl⟩
                  obtain ⟨Ha, Hb⟩ := H
                  obtain ⟨H2a, H2b⟩ := H2
                  rw [hy] at hcb
                  rw [hx] at hel hxl
                  rw [hH] at k17 k18 hHl
                  rw [hH2] at hHl2
                  have hst : (H2a, H2b) = (if y = true then (nodeH x Ha, nodeH x Hb) else (Ha, nodeH Hb x)) := by have := HST.out; rw [hH2, hH, hy, hx] at this; exact this
                  have hHa : Ha.length = 32 := hHl.1
                  have hHb : Hb.length = 32 := hHl.2
                  have hH2a : H2a.length = 32 := hHl2.1
                  have hH2b : H2b.length = 32 := hHl2.2
                  have hsa := szrow hHa
                  have hsb := szrow hHb
                  have hsx := szlist hxl
                  have hsx2 := szrow hxl
                  have hox := sameZ hxl
                  have hax := oneAll x
                  have hs2a := szrow hH2a
                  have hs2b := szrow hH2b
                  have ha2a := oneAll H2a
                  have ha2b := oneAll H2b
                  have hoa : ((Ha.map U8).toArray).size = ((H2a.map U8).toArray).size := by simp [hHa, hH2a]
                  have hob2 : ((Hb.map U8).toArray).size = ((H2b.map U8).toArray).size := by simp [hHb, hH2b]
                  have HNA : Hid (y = true → ∀ W, Upd [] wp W → Calls Tryd.prog 20 #[.agg (x.map U8).toArray, .agg (Ha.map U8).toArray] W fun e w' => e = .returned (.agg (H2a.map U8).toArray) ∧ Upd [] W w') := fun hyt W hW => by
                    rw [if_pos hyt] at hst
                    injection hst with h1 h2
                    rw [h1]
                    exact node_ W x Ha hxl hHa (HG.out.upd (HV.out.trans hW) (by simp)) (HF.out.upd (HV.out.trans hW) (by simp))
                  have HNB : Hid (y = true → ∀ W, Upd [] wp W → Calls Tryd.prog 20 #[.agg (x.map U8).toArray, .agg (Hb.map U8).toArray] W fun e w' => e = .returned (.agg (H2b.map U8).toArray) ∧ Upd [] W w') := fun hyt W hW => by
                    rw [if_pos hyt] at hst
                    injection hst with h1 h2
                    rw [h2]
                    exact node_ W x Hb hxl hHb (HG.out.upd (HV.out.trans hW) (by simp)) (HF.out.upd (HV.out.trans hW) (by simp))
                  have HNC : Hid (y = false → (Ha = H2a) ∧ ∀ W, Upd [] wp W → Calls Tryd.prog 20 #[.agg (Hb.map U8).toArray, .agg (x.map U8).toArray] W fun e w' => e = .returned (.agg (H2b.map U8).toArray) ∧ Upd [] W w') := fun hyt => by
                    rw [if_neg (by simp [hyt])] at hst
                    injection hst with h1 h2
                    refine ⟨h1.symm, fun W hW => ?_⟩
                    rw [h2]
                    exact node_ W Hb x hHb hxl (HG.out.upd (HV.out.trans hW) (by simp)) (HF.out.upd (HV.out.trans hW) (by simp))
                  have HC2 := Lib.hid (show ((crossH (p, p) (R.take (q + 1)) (Q.take (q + 1))).1.map U8).toArray = (H2a.map U8).toArray ∧ ((crossH (p, p) (R.take (q + 1)) (Q.take (q + 1))).2.map U8).toArray = (H2b.map U8).toArray by rw [hH2]; exact ⟨rfl, rfl⟩)
                  obtain ⟨lx, hlx⟩ : ∃ l, x.map U8 = l := ⟨_, rfl⟩
                  obtain ⟨ca, hca⟩ : ∃ c, (Ha.map U8).toArray = c := ⟨_, rfl⟩
                  obtain ⟨cb, hcb'⟩ : ∃ c, (Hb.map U8).toArray = c := ⟨_, rfl⟩
                  obtain ⟨c2a, hc2a⟩ : ∃ c, (H2a.map U8).toArray = c := ⟨_, rfl⟩
                  obtain ⟨c2b, hc2b⟩ : ∃ c, (H2b.map U8).toArray = c := ⟨_, rfl⟩
                  have HAA : Hid (Ha = H2a → ca = c2a) := fun h => by rw [← hca, ← hc2a, h]
                  rw [hlx] at hel hsx hsx2 hax hox HNA HNB HNC
                  rw [hca] at k17 hsa hoa HNA
                  rw [hcb'] at k18 hsb hob2 HNB HNC
                  rw [hc2a] at hs2a hoa ha2a HNA HC2
                  rw [hc2b] at hs2b hob2 ha2b HNB HNC HC2
                  have HEL := Lib.hid hel
                  have K17' := Lib.hid k17
                  have K18' := Lib.hid k18
                  have h1718 : b17 < wp.heap.size ∧ b18 < wp.heap.size := ⟨lt_of_heap k17, lt_of_heap k18⟩
                  clear hOw e2 e3 e7 e8 e9 hPw hel hxl hy hx hH hH2 hHl hHl2 hst hlx hca hcb' hc2a hc2b k17 k18 hHa hHb hH2a hH2b hr hrl hrr
                  go_wp2_with (first
                    | (with_reducible refine arm_load_mid (k := p1 + q * 32) (by with_unfolding_all exact rfl) HEL.out Tryd.underlying27 rfl hsx ?_)
                    | (with_reducible refine arm_alloc (zero_h32 _) ?_))
                  intro b20 w21 hb20 k20 hU21 hz21
                  change w21.heap[b20]? = some (.cells (zrow8 32) 27 (0, 0)) at k20
                  go_wp2_with (with_reducible refine arm_store (by with_unfolding_all exact rfl) (by with_unfolding_all exact rfl) k20 hsx2 hox hax ?_)
                  intro w22 k22 hX22 hz22
                  have hT22 := hU21.fresh hb20 hX22
                  have hcb22 := hT22.cell hcb (by simp)
                  have k17b := hT22.heap K17'.out (by simp)
                  have k18b := hT22.heap K18'.out (by simp)
                  have HQ20 : Hid (∀ W, Upd [] w22 W → ∃ t fr, W.heap[b20]? = some (.cells lx.toArray t fr)) := fun W hW => ⟨_, _, hW.heap k22 (by simp)⟩
                  have HQ17 : Hid (∀ W, Upd [] w22 W → ∃ t fr, W.heap[b17]? = some (.cells ca t fr)) := fun W hW => ⟨_, _, hW.heap k17b (by simp)⟩
                  have HQ18 : Hid (∀ W, Upd [] w22 W → ∃ t fr, W.heap[b18]? = some (.cells cb t fr)) := fun W hW => ⟨_, _, hW.heap k18b (by simp)⟩
                  have K17b := Lib.hid k17b
                  have K18b := Lib.hid k18b
                  have K22 := Lib.hid k22
                  have HT22 := Lib.hid hT22
                  have hcb21 := hcb
                  clear hb20 k20 hU21 hz21 k22 hX22 hz22 hT22 k17b k18b hcb hcb21
                  cases y with
                  | true =>
                    have HN1 := Lib.hid (HNA.out rfl)
                    have HN2 := Lib.hid (HNB.out rfl)
                    clear HNA HNB HNC
                    go_wp2_with (fail)
                    refine wp_region_quiet_tail 6 (Upd [] w22) (by kernel_rfl) (by kernel_rfl) (Upd.refl _ _).drew ?_
                    simp only [List.take_succ_cons, List.take_zero, List.drop_succ_cons, List.drop_zero]
                    repeat (first
                      | (refine wpQuiet_val rfl (quiet_load_row 27 _ rfl b20 rfl _ HQ20.out Tryd.underlying27 rfl hsx2) ?_)
                      | (refine wpQuiet_val rfl (quiet_load_row 27 _ rfl b17 rfl _ HQ17.out Tryd.underlying27 rfl hsa) ?_)
                      | (refine wpQuiet_val rfl (quiet_load_row 27 _ rfl b18 rfl _ HQ18.out Tryd.underlying27 rfl hsb) ?_)
                      | (refine wpQuiet_step (fun K hK => ?_)
                         go_simp
                         first
                           | (refine ⟨_, fun _ _ => rfl, hK _ ?_⟩; clear hK K)
                           | ((with_reducible refine ⟨_, fun w2 hw2 => (HN1.out w2 (HT22.out.trans hw2)).mono (fun e w' h => ⟨h.1, hw2.trans h.2⟩), hK _ ?_⟩); clear hK K)
                           | ((with_reducible refine ⟨_, fun w2 hw2 => (HN2.out w2 (HT22.out.trans hw2)).mono (fun e w' h => ⟨h.1, hw2.trans h.2⟩), hK _ ?_⟩); clear hK K)
                           | (refine hK _ ?_; clear hK K)))
                    refine wpQuiet_nil ?_
                    intro w25 hU25
                    have k17c := hU25.heap K17b.out (by simp)
                    go_wp2_with (with_reducible refine arm_store (by with_unfolding_all exact rfl) (by with_unfolding_all exact rfl) k17c hs2a hoa ha2a ?_)
                    intro w26 k26 hX26 hz26
                    have k18c := hX26.heap (hU25.heap K18b.out (by simp)) (by simp; omega)
                    go_wp2_with (with_reducible refine arm_store (by with_unfolding_all exact rfl) (by with_unfolding_all exact rfl) k18c hs2b hob2 ha2b ?_)
                    intro w27 k27 hX27 hz27
                    have k17d := hX27.heap k26 (by simp; omega)
                    have hT27 := (((HU2.out.trans0 HT22.out).trans0 hU25).trans (hX26.mono (T := [b17, b18]) (fun i hm _ => by simp at hm; simp [hm]))).trans (hX27.mono (T := [b17, b18]) (fun i hm _ => by simp at hm; simp [hm]))
                    have K17e := Lib.hid k17d
                    have K18e := Lib.hid k27
                    have HT27 := Lib.hid hT27
                    clear k17c k26 hX26 hz26 k18c k27 hX27 hz27 k17d hT27 hU25
                    go_wp2_with (fail)
                    go_roundw
                    case rel => exact ⟨q + 1, by omega, by go_num, by rw [HC2.out.1]; exact K17e.out, by rw [HC2.out.2]; exact K18e.out, HT27.out⟩
                    case measure => simp [intOf]; omega
                  | false =>
                    obtain ⟨hae, hnc⟩ := HNC.out rfl
                    obtain rfl := HAA.out hae
                    have HN1 := Lib.hid hnc
                    clear HNA HNB HNC hae hnc HAA
                    have k18c := K18b.out
                    have k22c := K22.out
                    go_wp2_with (first | (with_reducible refine arm_load (by with_unfolding_all exact rfl) k18c Tryd.underlying27 (by with_unfolding_all exact rfl) hsb ?_) | (with_reducible refine arm_load (by with_unfolding_all exact rfl) k22c Tryd.underlying27 (by with_unfolding_all exact rfl) hsx2 ?_))
                    with_reducible refine (HN1.out _ HT22.out).mono ?_
                    rintro e w25 ⟨rfl, hU25⟩
                    have k18d := hU25.heap K18b.out (by simp)
                    clear k18c k22c
                    go_wp2_with (with_reducible refine arm_store (by with_unfolding_all exact rfl) (by with_unfolding_all exact rfl) k18d hs2b hob2 ha2b ?_)
                    intro w27 k27 hX27 hz27
                    have k17d := hX27.heap (hU25.heap K17b.out (by simp)) (by simp; omega)
                    have hT27 := ((HU2.out.trans0 HT22.out).trans0 hU25).trans (hX27.mono (T := [b17, b18]) (fun i hm _ => by simp at hm; simp [hm]))
                    have K17e := Lib.hid k17d
                    have K18e := Lib.hid k27
                    have HT27 := Lib.hid hT27
                    clear k27 hX27 hz27 k17d hT27 hU25 k18d
                    go_wp2_with (fail)
                    go_roundw
                    case rel => exact ⟨q + 1, by omega, by go_num, by rw [HC2.out.1]; exact K17e.out, by rw [HC2.out.2]; exact K18e.out, HT27.out⟩
                    case measure => simp [intOf]; omega
                · obtain rfl : q = m2 := by omega
                  have h' : ¬ ((q : Int) < (q : Int)) := by omega
                  have hR2 : R.take q = R := List.take_of_length_le (by rw [HSR.out]; omega)
                  have hP2 : Q.take q = Q := List.take_of_length_le (by rw [HQL.out]; omega)
                  rw [hR2, hP2] at k17 k18
                  have hHl := crossH_len R Q (p, p) HP32.out HP32.out
                  obtain ⟨F, hF⟩ : ∃ F, crossH (p, p) R Q = F := ⟨_, rfl⟩
                  obtain ⟨Fa, Fb⟩ := F
                  rw [hF] at k17 k18 hHl HTK2
                  have hFa : Fa.length = 32 := hHl.1
                  have hFb : Fb.length = 32 := hHl.2
                  have hq1 := fun W => eql_h32 Fa old hFa HL32.out W
                  have hq2 := fun W => eql_h32 Fb root hFb HR32.out W
                  rw [HCL.out] at hq1
                  rw [HCT.out] at hq2
                  have hsFa := szrow hFa
                  have hsFb := szrow hFb
                  obtain ⟨ca, hca⟩ : ∃ c, (Fa.map U8).toArray = c := ⟨_, rfl⟩
                  obtain ⟨cb, hcb⟩ : ∃ c, (Fb.map U8).toArray = c := ⟨_, rfl⟩
                  rw [hca] at hq1 hsFa
                  rw [hcb] at hq2 hsFb
                  have k17' : wp.heap[b17]? = some (.cells ca 27 (0, 0)) := by rw [← hca]; exact k17
                  have k18' : wp.heap[b18]? = some (.cells cb 27 (0, 0)) := by rw [← hcb]; exact k18
                  have k7 := HU2.out.heap K7.out (by simp; omega)
                  have k8 := HU2.out.heap K8.out (by simp; omega)
                  obtain ⟨x1, hx1⟩ : ∃ b, (Fa == old) = b := ⟨_, rfl⟩
                  obtain ⟨x2, hx2⟩ : ∃ b, (Fb == root) = b := ⟨_, rfl⟩
                  have hres : takenC m n old root (p :: Q) = (x1 && x2) := by rw [← hx1, ← hx2]; exact HTK2.out
                  rw [hx1] at hq1
                  rw [hx2] at hq2
                  have HRES := Lib.hid hres
                  clear hR2 hP2 hF hHl hFa hFb hca hcb k17 k18 hx1 hx2 hres
                  cases x1 with
                  | true =>
                    go_wp2_with (first
                      | (with_reducible refine arm_load (by with_unfolding_all exact rfl) k17' Tryd.underlying27 (by with_unfolding_all exact rfl) hsFa ?_)
                      | (with_reducible refine arm_load (by with_unfolding_all exact rfl) k7 Tryd.underlying27 (by with_unfolding_all exact rfl) hsl0 ?_)
                      | (with_reducible refine arm_load_g (by with_unfolding_all exact rfl) (by with_unfolding_all exact rfl) k18' Tryd.underlying27 (by with_unfolding_all exact rfl) hsFb ?_)
                      | (with_reducible refine arm_load_g (by with_unfolding_all exact rfl) (by with_unfolding_all exact rfl) k8 Tryd.underlying27 (by with_unfolding_all exact rfl) hsr0 ?_))
                    go_ret
                    exact ⟨ret_eq (by rw [HRES.out]; rfl), HV.out⟩
                  | false =>
                    go_wp2_with (first
                      | (with_reducible refine arm_load (by with_unfolding_all exact rfl) k17' Tryd.underlying27 (by with_unfolding_all exact rfl) hsFa ?_)
                      | (with_reducible refine arm_load (by with_unfolding_all exact rfl) k7 Tryd.underlying27 (by with_unfolding_all exact rfl) hsl0 ?_))
                    go_ret
                    exact ⟨ret_eq (by rw [HRES.out]; rfl), HV.out⟩
            · have hnel : ((m2 : Int) != (L : Int)) = true := by simp; omega
              have hres : takenC m n old root (p :: Q) = false := by
                rw [HTK.out, HSC.out]
                have h2 := HQL.out
                have h3 := HL.out
                simp [h2, h3, hlen]
              have HRES := Lib.hid hres
              clear hres
              go_wp2_with (fail)
              go_ret
              exact ⟨ret_eq (by rw [HRES.out]; rfl), HV3.out⟩
end Go.Proofs.YtdfoffheolbokaaDoor
