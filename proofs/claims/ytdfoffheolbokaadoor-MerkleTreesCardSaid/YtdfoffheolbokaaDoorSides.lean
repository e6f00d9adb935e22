/-
  sides: on which side each hash of a path lies, from the leaf up.
-/
import Derived.Test.YtdfoffheolbokaaDoorRows16
import Derived.Test.YtdfoffheolbokaaDoorSplit
import Derived.Test.YtdfoffheolbokaaDoorMerkle2
import Derived.BigRegion
namespace Go.Proofs.YtdfoffheolbokaaDoor
open Go Go.RowKit Go.Proofs
/-- q pairs from the ends are turned -/
def Swapped (l x : List Bool) (q : Nat) : Prop := x.length = l.length ∧ ∀ p, p < l.length → x[p]? = if p < q ∨ l.length ≤ p + q then l[l.length - 1 - p]? else l[p]?
theorem Swapped.start (l : List Bool) : Swapped l l 0 := ⟨rfl, fun p hp => by rw [if_neg (by omega)]⟩
theorem Swapped.done {l x : List Bool} {q : Nat} (h : Swapped l x q) (hq : l.length ≤ 2 * q + 1) : x = l.reverse := by
  apply List.ext_getElem?
  intro p
  by_cases hp : p < l.length
  · rw [h.2 p hp, List.getElem?_reverse hp]
    split
    · rfl
    · rw [show l.length - 1 - p = p by omega]
  · rw [List.getElem?_eq_none (by rw [h.1]; omega), List.getElem?_eq_none (by simp; omega)]
theorem Swapped.step {l x : List Bool} {q : Nat} (h : Swapped l x q) (hq : 2 * q + 1 < l.length) (h1 : q < x.length) (h2 : l.length - 1 - q < x.length) : Swapped l ((x.set q x[l.length - 1 - q]).set (l.length - 1 - q) x[q]) (q + 1) := by
  refine ⟨by simp [h.1], fun p hp => ?_⟩
  have e1 : x[l.length - 1 - q]? = l[l.length - 1 - q]? := by rw [h.2 _ (by omega), if_neg (by omega)]
  have e2 : x[q]? = l[q]? := by rw [h.2 _ (by omega), if_neg (by omega)]
  rw [List.getElem?_eq_getElem h2] at e1
  rw [List.getElem?_eq_getElem h1] at e2
  rw [List.getElem?_set, List.getElem?_set]
  simp only [List.length_set]
  by_cases hp1 : l.length - 1 - q = p
  · subst hp1
    rw [if_pos rfl, if_pos h2, if_pos (by omega), e2, show l.length - 1 - (l.length - 1 - q) = q by omega]
  · rw [if_neg hp1]
    by_cases hp2 : q = p
    · subst hp2
      rw [if_pos rfl, if_pos h1, if_pos (by omega), e1]
    · rw [if_neg hp2, h.2 p hp]
      by_cases hc : p < q ∨ l.length ≤ p + q
      · rw [if_pos hc, if_pos (by omega)]
      · rw [if_neg hc, if_neg (by omega)]
set_option maxRecDepth 100000 in
set_option maxHeartbeats 6400000 in
theorem sides_ (w : World) (i n : Nat) (hi : i < n) (hn : n ≤ 65536) :
    Calls Tryd.prog 36 #[.int .i64 i, .int .i64 n] w fun e w' => ∃ u, e = .returned u ∧ OwnL w' w.heap.size u (sidesDown i n).reverse ∧ Upd [] w w' := by
  obtain ⟨B, hB⟩ : ∃ B, w.heap.size = B := ⟨_, rfl⟩
  rw [hB]
  have HB := Lib.hid hB
  have HBD := Lib.hid (sidesDown_bd n i)
  clear hB
  obtain ⟨S, hS⟩ : ∃ S, sidesDown i n = S := ⟨_, rfl⟩
  rw [hS] at HBD ⊢
  have HS := Lib.hid hS
  clear hS
  go_enter Tryd.func36, Tryd.ntmps36
  go_wp2_with (fail)
  go_loopw [0, 1, 5] (fun av bv dv wr => ∃ a b : Nat, ∃ l : List Bool, a < b ∧ b ≤ n ∧ av = .int .i64 a ∧ bv = .int .i64 b ∧ OwnL wr B dv l ∧ l ++ sidesDown a b = S ∧ Upd [] w wr) (fun _ bv _ _ => (intOf bv).toNat)
  case atStart => exact ⟨i, n, [], hi, Nat.le_refl _, rfl, rfl, OwnL.nil _ _, HS.out, Upd.refl _ _⟩
  case round =>
    obtain ⟨a, b, l, hab, hbn, rfl, rfl, hO, hP, hU⟩ := hrel
    have HO := Lib.hid hO
    have HP := Lib.hid hP
    have HU := Lib.hid hU
    obtain ⟨wo, rfl⟩ : ∃ wo : World, wo = wr := ⟨_, rfl⟩
    have hbw : B ≤ wo.heap.size := by have := hU.size; have := HB.out; omega
    have hll : l.length ≤ 65536 := by have h1 := HBD.out; rw [← hP] at h1; simp at h1; omega
    clear hO hP hU
    by_cases h : 1 < b
    · have h' : (b : Int) > 1 := by omega
      have hk1 := halfN_lt h
      have hk0 := halfN_pos b
      have HSP : Hid (∀ W, Calls Tryd.prog 37 #[.int .i64 b] W fun e w' => e = .returned (.int .i64 (halfN b)) ∧ W = w') := fun W => split_ W b h (by omega)
      have HPL : Hid (halfN b ≤ a → sidesDown a b = true :: sidesDown (a - halfN b) (b - halfN b)) := fun hk => sidesDown_left a b h hk
      have HPR : Hid (a < halfN b → sidesDown a b = false :: sidesDown a (halfN b)) := fun hk => sidesDown_right a b h hk
      obtain ⟨k, hk⟩ : ∃ k, halfN b = k := ⟨_, rfl⟩
      rw [hk] at hk1 hk0 HSP HPL HPR
      clear hk
      go_wp2_with (fail)
      with_reducible refine (HSP.out _).mono ?_
      rintro e w2 ⟨rfl, rfl⟩
      by_cases hak : k ≤ a
      · have hak' : decide ((a : Int) ≥ (k : Int)) = true := by simp; omega
        have hak2 : (a : Int) ≥ (k : Int) := by omega
        go_wp2_with (with_reducible refine bsL (y := true) (by with_unfolding_all exact rfl) ?_)
        intro g4 w4 hg4 k4 hU4
        have hO4 := HO.out.upd0 hU4
        have hb4 : B ≤ w4.heap.size := by have := hU4.size; omega
        go_wp2_with (with_reducible refine appendL (by with_unfolding_all exact rfl) (by with_unfolding_all exact rfl) hO4 k4 (by omega) hb4 ?_)
        intro v5 w5 hO5 hU5
        have hT5 := (HU.out.trans hU4).row hU5 (fun g hg => by have := (hO4.lt g hg).1; have := HB.out; omega)
        have H5 := Lib.hid hO5
        have HT5 := Lib.hid hT5
        clear hO4 hO5 hT5 hU4 hU5 k4
        go_wp2_with (fail)
        go_roundw
        case rel => exact ⟨a - k, b - k, l ++ [true], by omega, by omega, by go_num, by go_num, H5.out, by have := HP.out; rw [HPL.out hak] at this; simpa using this, HT5.out⟩
        case measure => simp [intOf]; omega
      · have hak' : decide ((a : Int) ≥ (k : Int)) = false := by simp; omega
        have hak2 : ¬ ((a : Int) ≥ (k : Int)) := by omega
        go_wp2_with (with_reducible refine bsL (y := false) (by with_unfolding_all exact rfl) ?_)
        intro g4 w4 hg4 k4 hU4
        have hO4 := HO.out.upd0 hU4
        have hb4 : B ≤ w4.heap.size := by have := hU4.size; omega
        go_wp2_with (with_reducible refine appendL (by with_unfolding_all exact rfl) (by with_unfolding_all exact rfl) hO4 k4 (by omega) hb4 ?_)
        intro v5 w5 hO5 hU5
        have hT5 := (HU.out.trans hU4).row hU5 (fun g hg => by have := (hO4.lt g hg).1; have := HB.out; omega)
        have H5 := Lib.hid hO5
        have HT5 := Lib.hid hT5
        clear hO4 hO5 hT5 hU4 hU5 k4
        go_wp2_with (fail)
        go_roundw
        case rel => exact ⟨a, k, l ++ [false], by omega, by omega, by go_num, by go_num, H5.out, by have := HP.out; rw [HPR.out (by omega)] at this; simpa using this, HT5.out⟩
        case measure => simp [intOf]; omega
    · have h' : ¬ ((b : Int) > 1) := by omega
      have hl : l = S := by have := HP.out; rw [sidesDown_one _ _ (by omega), List.append_nil] at this; exact this
      subst hl
      obtain ⟨L, hL⟩ : ∃ L, l.length = L := ⟨_, rfl⟩
      have HL := Lib.hid hL
      obtain ⟨da, dc, hda⟩ := HO.out.isSlice
      rw [hL] at hda
      have hLb : L ≤ 65536 := by omega
      have HO2 : Hid (OwnL wo B (.slice da L dc) l) := by rw [← hda]; exact HO.out
      rw [hda]
      clear hda hL HP HS HBD
      go_wp2_with (fail)
      go_loopw [8, 9] (fun iv jv wr => ∃ q : Nat, ∃ x : List Bool, 2 * q ≤ L + 1 ∧ iv = .int .i64 q ∧ jv = .int .i64 ((L : Int) - 1 - q) ∧ OwnL wr B (.slice da L dc) x ∧ Swapped l x q ∧ Upd [] w wr) (fun iv _ _ => L + 1 - (intOf iv).toNat)
      case atStart => exact ⟨0, l, by omega, rfl, by go_num, HO2.out, Swapped.start l, HU.out⟩
      case round =>
        obtain ⟨q, x, hq, rfl, rfl, hX, hS, hV⟩ := hrel
        have HX := Lib.hid hX
        have HSW := Lib.hid hS
        have HV := Lib.hid hV
        obtain ⟨wp, rfl⟩ : ∃ wp : World, wp = wr := ⟨_, rfl⟩
        have hxl : x.length = L := by rw [hS.1, HL.out]
        clear hX hS hV
        by_cases hc : 2 * q + 1 < L
        · obtain ⟨r, hr⟩ : ∃ r : Nat, L - 1 - q = r := ⟨_, rfl⟩
          have hr' : (L : Int) - 1 - (q : Int) = (r : Int) := by omega
          obtain ⟨g, cap, hgs, hgB, hgl, _, _⟩ := HX.out.at (by omega)
          injection hgs with e1 e2 e3
          subst e1
          have c1 := HX.out.cell q (by omega)
          have c2 := HX.out.cell r (by omega)
          have f1 := HX.out.frozen q (by omega)
          have f2 := HX.out.frozen r (by omega)
          obtain ⟨y1, hy1⟩ : ∃ y, x[q]'(by omega) = y := ⟨_, rfl⟩
          obtain ⟨y2, hy2⟩ : ∃ y, x[r]'(by omega) = y := ⟨_, rfl⟩
          rw [hy1] at c1
          rw [hy2] at c2
          have hst := HSW.out.step (by rw [HL.out]; exact hc) (by omega) (by rw [HL.out]; omega)
          simp only [HL.out, hr, hy1, hy2] at hst
          have hset := (HX.out.set q (by omega) y2).set r (by simp; omega) y1
          have hqr : q < r := by omega
          have hrL : r < L := by omega
          have HST := Lib.hid hst
          have HSET := Lib.hid hset
          have HR' := Lib.hid hr'
          have HR := Lib.hid hr
          rw [hr']
          clear hst hset hy1 hy2 hr hr' e2 e3
          have hqr' : ¬ (q = r) := by omega
          have hrq' : ¬ (r = q) := by omega
          go_wp2
          go_big_region
          go_wp2
          go_roundw
          case rel => exact ⟨q + 1, _, by omega, by go_num, by have := HR'.out; go_num, HSET.out, HST.out, ((HV.out.setCell ⟨g, q, none⟩ (.bool y2) (fun hg => by have := HB.out; simp at hg; omega)).setCell ⟨g, r, none⟩ (.bool y1) (fun hg => by have := HB.out; simp at hg; omega)).drew⟩
          case measure => simp [intOf]; omega
        · have hlt : ¬ ((q : Int) < (L : Int) - 1 - (q : Int)) := by omega
          have hx := HSW.out.done (by rw [HL.out]; omega)
          have hO := HX.out
          rw [hx] at hO
          have HO := Lib.hid hO
          clear hO hx
          go_wp2_with (fail)
          go_ret
          exact ⟨_, rfl, HO.out, HV.out⟩
end Go.Proofs.YtdfoffheolbokaaDoor
