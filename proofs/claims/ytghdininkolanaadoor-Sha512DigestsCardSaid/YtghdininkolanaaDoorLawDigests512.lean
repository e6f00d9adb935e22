/-
  The law Sha512Digests: four digests, written to, summed, cloned and reset in any order.
-/
import Derived.Test.YtghdininkolanaaDoorQP512
import Derived.Test.YtghdininkolanaaDoorOpen
namespace Go.Proofs.YtghdininkolanaaDoor
open Go Go.RowKit Go.Proofs
/-- one call of a script -/
structure QOp where
  kind : Int
  who : BitVec 8
  frm : BitVec 8
  data : List (BitVec 8)
/-- a script that can be read -/
def RdQ (w : World) (v : Value) (os : List QOp) : Prop := ∃ A c, v = .slice A os.length c ∧ os.length ≤ c ∧ c ≤ maxLen ∧ (0 < os.length → ∃ g p, A = some ⟨g, p, none⟩ ∧ ∀ i (h : i < os.length), ∃ Av cv, w.rangeAt g (p + i * 4) [.int .i64 os[i].kind, U8 os[i].who, U8 os[i].frm, .slice Av os[i].data.length cv] ∧ RdB w (.slice Av os[i].data.length cv) os[i].data)
theorem size_qop : (Tryd.prog.info? 42).map (·.size) = some 4 := by kernel_rfl
def zqop : Array Value := #[.int .i64 0, .int .u8 0, .int .u8 0, .slice none 0 0]
theorem zero_qop (w : World) : (zeroValue 42).run Tryd.prog w = .ok (.agg zqop) w := by kernel_rfl
theorem info_pair3 : ∃ i, Tryd.prog.info? 38 = some i ∧ (∃ z, i.zero = some z ∧ z.cells.size = 2) ∧ i.size = 2 := by
  have h : (Tryd.prog.info? 38).map (fun i => (i.zero.map (·.cells.size), i.size)) = some (some 2, 2) := by kernel_rfl
  cases hq : Tryd.prog.info? 38 with
  | none => rw [hq] at h; cases h
  | some i =>
    rw [hq] at h
    simp only [Option.map_some, Option.some.injEq, Prod.mk.injEq] at h
    refine ⟨i, rfl, ?_, h.2⟩
    cases hz : i.zero with
    | none => rw [hz] at h; cases h.1
    | some z => rw [hz] at h; exact ⟨z, rfl, by simpa using h.1⟩
/-- four pairs, laid into a new block -/
theorem bs4 {ops : Array Oper} {rest : List Oper} {a : Act} {w : World} {Q : Exit → Act → World → Prop} {dst : Option Tmp} {type : TypeId} {pos : String} {after : Array Edge} {x0 x1 x2 x3 : Operand} {a0 b0 a1 b1 a2 b2 a3 b3 : Value} (h0 : a.eval x0 = .agg #[a0, b0]) (h1 : a.eval x1 = .agg #[a1, b1]) (h2 : a.eval x2 = .agg #[a2, b2]) (h3 : a.eval x3 = .agg #[a3, b3])
    (h : ∀ g w', w.heap.size = g → w'.heap[g]? = some (.cells #[a0, b0, a1, b1, a2, b2, a3, b3] 38 (0, 0)) → Upd [] w w' → wpList Tryd.prog ops Q rest (a.put dst (.slice (some ⟨g, 0, none⟩) 4 4)) w') :
    wpList Tryd.prog ops Q (⟨dst, .buildSlice 40 4 #[(0, x0), (1, x1), (2, x2), (3, x3)], type, pos, after, none⟩ :: rest) a w := by
  obtain ⟨i, hi, ⟨z, hz, hzc⟩, hs⟩ := info_pair3
  refine wpList_buildSlice rfl 40 38 4 _ rfl #[a0, b0, a1, b1, a2, b2, a3, b3] i z Tryd.underlying40 hi hz (by rw [hs]; decide) (by rw [hs]; decide) ?_ (h _ _ rfl (hget_new rfl) ((Upd.refl _ w).alloc _))
  have := Great.fill_whole (s := 2) (by omega) [.agg #[a0, b0], .agg #[a1, b1], .agg #[a2, b2], .agg #[a3, b3]] ((Array.range (4 * i.size)).map (z.cells[· % z.cells.size]!)) (fun v hv => by simp only [List.mem_cons, List.not_mem_nil, or_false] at hv; rcases hv with rfl | rfl | rfl | rfl <;> rfl) (by rw [hs]; simp)
  simp only [List.map_toArray, List.map_cons, List.map_nil, h0, h1, h2, h3, hs]
  rw [hs] at this
  simpa [Value.cells] using this
theorem size_digp : (Tryd.prog.info? 36).map (·.size) = some 1 := by kernel_rfl
theorem qset1 (qs : List QP) (k : Nat) (p : QP) (hk : k < qs.length) (h : p.D = qs[k].D) : (qCells qs).toArray.setIfInBounds (k * 2 + 1) p.a = (qCells (qs.set k p)).toArray := by rw [← qCells_set1 qs k p hk h]; simp
theorem qset0 (qs : List QP) (k : Nat) (p : QP) (hk : k < qs.length) (h : p.a = qs[k].a) : (qCells qs).toArray.setIfInBounds (k * 2) (.pointer (some ⟨p.D, 0, none⟩)) = (qCells (qs.set k p)).toArray := by rw [← qCells_set0 qs k p hk h]; simp
set_option maxRecDepth 100000 in
set_option maxHeartbeats 25600000 in
theorem law_digests512 (w : World) (v : Value) (os : List QOp) (hv : RdQ w v os) (hod : ∀ o ∈ os, o.data.length ≤ 140737488351232) (hg : Gl512 w) (hf : GlFirst512 w) (h3 : Gl3 w) (hf3 : GlFirst3 w) :
    Calls Tryd.prog 4 #[v] w fun e w' => e = .returned (.bool true) ∧ Upd [] w w' := by
  obtain ⟨A, c, rfl, hc1, hc2, hA⟩ := hv
  obtain ⟨n, hn⟩ : ∃ n, os.length = n := ⟨_, rfl⟩
  rw [hn] at hc1 ⊢
  have HEL : Hid (∀ i, i < n → ∃ (g p : Nat) (o : QOp) (Av : Option Addr) (cv : Nat), A = some ⟨g, p, none⟩ ∧ w.rangeAt g (p + i * 4) [.int .i64 o.kind, U8 o.who, U8 o.frm, .slice Av o.data.length cv] ∧ RdB w (.slice Av o.data.length cv) o.data ∧ o.data.length ≤ 140737488351232) := fun i hi => by
    obtain ⟨g, p, e1, h1⟩ := hA (by omega)
    obtain ⟨Av, cv, h2, h3⟩ := h1 i (by omega)
    exact ⟨g, p, _, Av, cv, e1, h2, h3, hod _ (List.getElem_mem _)⟩
  have HBG : Hid (∀ W, Upd [] w W → Calls Tryd.prog 9 #[] W fun e w' => ∃ D, e = .returned (.agg #[.pointer (some ⟨D, 0, none⟩), .slice none 0 0]) ∧ W.heap.size ≤ D ∧ DigOf512 w' D [] ∧ Upd [] W w') := fun W hW => begun03 W (glf_upd hf hW (by simp))
  have HG := Lib.hid hg
  have HF := Lib.hid hf
  have H3 := Lib.hid h3
  have HF3 := Lib.hid hf3
  have HGL : Hid (5 < w.heap.size) := hg.lt'
  have hni : (n : Int) ≤ 9223372036854775807 := by unfold maxLen at hc2; omega
  clear hA hn hg hf h3 hf3 hc1 hc2 hod
  go_enter Tryd.func4, Tryd.ntmps4
  go_wp2_with (fail)
  with_reducible refine (HBG.out _ (Upd.refl _ _)).mono ?_
  rintro e w1 ⟨D0, rfl, hB0, hD0, hU1⟩
  have hl0 := hD0.lt
  go_wp2_with (fail)
  with_reducible refine (HBG.out _ hU1).mono ?_
  rintro e w2 ⟨D1, rfl, hB1, hD1, hU2⟩
  have hl1 := hD1.lt
  have hD0' := hD0.upd hU2 (by simp)
  have hV2 := hU1.trans hU2
  go_wp2_with (fail)
  with_reducible refine (HBG.out _ hV2).mono ?_
  rintro e w3 ⟨D2, rfl, hB2, hD2, hU3⟩
  have hl2 := hD2.lt
  have hD0'' := hD0'.upd hU3 (by simp)
  have hD1' := hD1.upd hU3 (by simp)
  have hV3 := hV2.trans hU3
  go_wp2_with (fail)
  with_reducible refine (HBG.out _ hV3).mono ?_
  rintro e w4 ⟨D3, rfl, hB3, hD3, hU4⟩
  have hl3 := hD3.lt
  have hV4 := hV3.trans hU4
  go_wp2_with (with_reducible refine bs4 (by with_unfolding_all exact rfl) (by with_unfolding_all exact rfl) (by with_unfolding_all exact rfl) (by with_unfolding_all exact rfl) ?_)
  intro gq w5 hgq hk5 hU5
  have hs1 := hU1.size
  have HP0 : Hid (Four w5 w.heap.size gq [⟨D0, .slice none 0 0, []⟩, ⟨D1, .slice none 0 0, []⟩, ⟨D2, .slice none 0 0, []⟩, ⟨D3, .slice none 0 0, []⟩]) := by
    have e0 := ((hD0''.upd hU4 (by simp)).upd hU5 (by simp))
    have e1 := ((hD1'.upd hU4 (by simp)).upd hU5 (by simp))
    have e2 := ((hD2.upd hU4 (by simp)).upd hU5 (by simp))
    have e3 := (hD3.upd hU5 (by simp))
    have hs2 := hU2.size
    have hs3 := hU3.size
    have hs4 := hU4.size
    refine ⟨rfl, hk5, by omega, fun i hi => ?_, fun i j hi hj hij => ?_⟩
    · match i, hi with
      | 0, _ => exact ⟨e0, by show w.heap.size ≤ D0; omega, OwnB.nil _ _⟩
      | 1, _ => exact ⟨e1, by show w.heap.size ≤ D1; omega, OwnB.nil _ _⟩
      | 2, _ => exact ⟨e2, by show w.heap.size ≤ D2; omega, OwnB.nil _ _⟩
      | 3, _ => exact ⟨e3, by show w.heap.size ≤ D3; omega, OwnB.nil _ _⟩
    · match i, j, hi, hj with
      | 0, 0, _, _ => omega
      | 0, 1, _, _ => show D0 ≠ D1; omega
      | 0, 2, _, _ => show D0 ≠ D2; omega
      | 0, 3, _, _ => show D0 ≠ D3; omega
      | 1, 0, _, _ => show D1 ≠ D0; omega
      | 1, 1, _, _ => omega
      | 1, 2, _, _ => show D1 ≠ D2; omega
      | 1, 3, _, _ => show D1 ≠ D3; omega
      | 2, 0, _, _ => show D2 ≠ D0; omega
      | 2, 1, _, _ => show D2 ≠ D1; omega
      | 2, 2, _, _ => omega
      | 2, 3, _, _ => show D2 ≠ D3; omega
      | 3, 0, _, _ => show D3 ≠ D0; omega
      | 3, 1, _, _ => show D3 ≠ D1; omega
      | 3, 2, _, _ => show D3 ≠ D2; omega
      | 3, 3, _, _ => omega
  have HM0 : Hid (∀ i (h : i < [(⟨D0, .slice none 0 0, []⟩ : QP), ⟨D1, .slice none 0 0, []⟩, ⟨D2, .slice none 0 0, []⟩, ⟨D3, .slice none 0 0, []⟩].length), ([(⟨D0, .slice none 0 0, []⟩ : QP), ⟨D1, .slice none 0 0, []⟩, ⟨D2, .slice none 0 0, []⟩, ⟨D3, .slice none 0 0, []⟩][i]).m.length ≤ 0) := fun i hi => by
    match i, hi with
    | 0, _ => exact Nat.le_refl _
    | 1, _ => exact Nat.le_refl _
    | 2, _ => exact Nat.le_refl _
    | 3, _ => exact Nat.le_refl _
  have HV5 := Lib.hid (hV4.trans hU5)
  clear hB0 hD0 hU1 hl0 hB1 hD1 hU2 hl1 hD0' hV2 hB2 hD2 hU3 hl2 hD0'' hD1' hV3 hB3 hD3 hU4 hl3 hV4 hgq hk5 hU5 hs1
  go_upto_region 3 with (fail)
  go_wp2_with (fail)
  go_loopw [4, 5] (fun bv iv wr => ∃ (k bt : Nat) (qs : List QP), k ≤ n ∧ iv = .int .i64 k ∧ bv = .int .i64 bt ∧ bt ≤ 200000 ∧ Four wr w.heap.size gq qs ∧ (∀ i (h : i < qs.length), qs[i].m.length ≤ bt) ∧ Upd [] w wr) (fun _ iv _ => n - (intOf iv).toNat)
  case atStart => exact ⟨0, 0, _, by omega, rfl, rfl, by omega, HP0.out, HM0.out, HV5.out⟩
  case round =>
    obtain ⟨k, bt, qs, hk, rfl, rfl, hbt, hP, hm, hU⟩ := hrel
    have HP := Lib.hid hP
    have HM := Lib.hid hm
    have HU := Lib.hid hU
    have hbi : (bt : Int) ≤ 200000 := by omega
    have HBT : Hid (bt ≤ 200000) := hbt
    obtain ⟨wo, rfl⟩ : ∃ wo : World, wo = wr := ⟨_, rfl⟩
    clear hP hm hU hbt
    by_cases h : k < n
    · have ki : (k : Int) < (n : Int) := by omega
      obtain ⟨go, po, o, Av, cv, rfl, hr, hrd, hdl⟩ := HEL.out k h
      obtain ⟨d, hd⟩ : ∃ x, o.data = x := ⟨_, rfl⟩
      obtain ⟨who, hwho⟩ : ∃ x, o.who = x := ⟨_, rfl⟩
      obtain ⟨frm, hfrm⟩ : ∃ x, o.frm = x := ⟨_, rfl⟩
      obtain ⟨kind, hkind⟩ : ∃ x, o.kind = x := ⟨_, rfl⟩
      rw [hd, hwho, hfrm, hkind] at hr
      rw [hd] at hrd hdl
      obtain ⟨L, hL⟩ : ∃ L, d.length = L := ⟨_, rfl⟩
      rw [hL] at hr
      have HLL := Lib.hid hL
      have hli : (L : Int) ≤ 140737488351232 := by omega
      have HRD := Lib.hid hrd
      have hr1 : wo.rangeAt go (po + k * 4) [.int .i64 kind, U8 who, U8 frm, .slice Av L cv] := fun j u hj => HU.out.cell (hr j u hj) (by simp)
      have hs4 : (Tryd.prog.info? 42).map (·.size) = some ([.int .i64 kind, U8 who, U8 frm, .slice Av L cv] : List Value).length := size_qop
      have hs4' : (Tryd.prog.info? 42).map (·.size) = some (#[.int .i64 kind, U8 who, U8 frm, .slice Av L cv] : Array Value).size := size_qop
      have ho4 : zqop.size = (#[.int .i64 kind, U8 who, U8 frm, .slice Av L cv] : Array Value).size := rfl
      have ha4 : (#[.int .i64 kind, U8 who, U8 frm, .slice Av L cv] : Array Value).all (·.oneCell') = true := by simp [Value.oneCell', U8]
      clear hr hd hwho hfrm hkind hL hrd hdl h
      go_upto_region 6 with (fail)
      go_wp2_with (first
        | (with_reducible refine arm_load_mid (by with_unfolding_all exact rfl) hr1 Tryd.underlying42 (by with_unfolding_all exact rfl) hs4 ?_)
        | (with_reducible refine arm_alloc (zero_qop _) ?_))
      intro b6 w1 hb6 k6 hU1 hz1
      change w1.heap[b6]? = some (.cells zqop 42 (0, 0)) at k6
      go_wp2_with (with_reducible refine arm_store (by with_unfolding_all exact rfl) (by with_unfolding_all exact rfl) k6 hs4' ho4 ha4 ?_)
      intro w2 k7 hX2 hz2
      have hT2 := hU1.fresh hb6 hX2
      have HU2 := Lib.hid (HU.out.trans hT2)
      have HP2 := Lib.hid (HP.out.upd0 hT2)
      have c63 : w2.cell? ⟨b6, 3, none⟩ = some (.slice Av L cv) := by rw [cell_of_row _ _ _ _ _ _ k7]; rfl
      have c60 : w2.cell? ⟨b6, 0, none⟩ = some (.int .i64 kind) := by rw [cell_of_row _ _ _ _ _ _ k7]; rfl
      have c61 : w2.cell? ⟨b6, 1, none⟩ = some (U8 who) := by rw [cell_of_row _ _ _ _ _ _ k7]; rfl
      have c62 : w2.cell? ⟨b6, 2, none⟩ = some (U8 frm) := by rw [cell_of_row _ _ _ _ _ _ k7]; rfl
      have HB6 : Hid (w.heap.size ≤ b6 ∧ wo.heap.size ≤ b6) := ⟨by have := HU.out.size; omega, by omega⟩
      clear hb6 k6 hU1 hz1 hX2 hz2 hT2 hs4 hs4' ho4 ha4 hr1 k7
      by_cases hbig : 200000 < bt + L
      · have b1 : (200000 : Int) < (bt : Int) + (L : Int) := by omega
        go_wp2_with (fail)
        go_ret
        exact ⟨rfl, HU2.out⟩
      · have b1 : ¬ (200000 : Int) < (bt : Int) + (L : Int) := by omega
        by_cases hk4 : 400 < k
        · have b2 : (400 : Int) < (k : Int) := by omega
          go_wp2_with (fail)
          go_ret
          exact ⟨rfl, HU2.out⟩
        · have b2 : ¬ (400 : Int) < (k : Int) := by omega
          obtain ⟨r, hr2⟩ : ∃ r, who.toNat % 4 = r := ⟨_, rfl⟩
          have hrq : r < 4 := by rw [← hr2]; exact Nat.mod_lt _ (by omega)
          have hri : (r : Int) < 4 := by omega
          have hmod : ((who.toNat : Int)).tmod 4 = (r : Int) := by rw [← hr2]; rfl
          have hwl : (who.toNat : Int) < 256 := by have := who.isLt; omega
          have HRQ : Hid (r < 4) := hrq
          have HQL : Hid (qs.length = 4) := HP2.out.len
          obtain ⟨p, hp⟩ : ∃ p, qs[r]'(by have := HQL.out; omega) = p := ⟨_, rfl⟩
          have HPP : Hid (qs[r]? = some p) := by show qs[r]? = some p; rw [List.getElem?_eq_getElem (by have := HQL.out; omega), hp]
          have c0 : w2.cell? ⟨gq, r * 2, none⟩ = some (.pointer (some ⟨p.D, 0, none⟩)) := by rw [cell_of_row _ _ _ _ _ _ HP2.out.heap, List.getElem?_toArray, qCells_get0 qs r (by have := HQL.out; omega), hp]
          have HSM : Hid (bt + L ≤ 200000) := by show bt + L ≤ 200000; omega
          clear hbig hk4 hr2 hrq hp
          go_upto_region 13 with (fail)
          by_cases hk1 : kind = 1
          · subst hk1
            have HQ0 : Hid (∀ W, Upd [] w2 W → W.cell? ⟨gq, r * 2, none⟩ = some (.pointer (some ⟨p.D, 0, none⟩))) := fun W hW => hW.cell c0 (by simp)
            obtain ⟨hrl, hpe⟩ := List.getElem?_eq_some_iff.1 HPP.out
            have hok := HP2.out.ok r hrl
            rw [hpe] at hok
            obtain ⟨Aa, ca, ea⟩ := hok.2.2.isSlice
            have HQ1 : Hid (∀ W, Upd [] w2 W → W.cell? ⟨gq, r * 2 + 1, none⟩ = some (.slice Aa p.m.length ca)) := fun W hW => by
              rw [cell_of_row _ _ _ _ _ _ (hW.heap HP2.out.heap (by simp)), List.getElem?_toArray, qCells_get1 qs r hrl, hpe, ea]
            have HMP : Hid (p.m.length ≤ bt) := by have := HM.out r hrl; rwa [hpe] at this
            have HOK := Lib.hid hok
            have HEA := Lib.hid ea
            have HRA : Hid (∀ W, Upd [] w2 W → RdB W (.slice Aa p.m.length ca) p.m) := fun W hW => by rw [← ea]; exact (hok.2.2.upd0 hW).rd
            clear hok ea
            have hC0 : (qCells qs).toArray[r * 2]? = some (.pointer (some ⟨p.D, 0, none⟩)) := by rw [List.getElem?_toArray, qCells_get0 qs r hrl, hpe]
            have hC1 : (qCells qs).toArray[r * 2 + 1]? = some p.a := by rw [List.getElem?_toArray, qCells_get1 qs r hrl, hpe]
            have hRW : ∀ W, Upd [gq, p.D] w2 W → RdB W (.slice Av d.length cv) d := fun W hW => by
              have hU0 : Upd [] w W := HU2.out.trans' hW (fun i hm hl => by
                have h1 := HP2.out.old
                have h2 := HOK.out.2.1
                simp at hm
                omega)
              rw [HLL.out]
              have := HRD.out.upd0 hU0
              rwa [HLL.out] at this
            have hTK := took03 w2 w.heap.size gq r p.D cv Av p.a (qCells qs).toArray p.m d HP2.out.heap hC0 hC1 HOK.out.1 HOK.out.2.2 HU2.out.size hRW (by have := HMP.out; have := HBT.out; omega) (by have := HSM.out; have := HLL.out; omega) (HG.out.upd HU2.out (by simp)) (by have := HGL.out; have := HOK.out.2.1; omega) (by have := HGL.out; have := HP2.out.old; omega)
            rw [HLL.out] at hTK
            have HTK := Lib.hid hTK
            clear hTK hRW hC0 hC1
            go_upto_region 16 with (fail)
            try go_simp
            go_wp2_with (fail)
            with_reducible refine HTK.out.mono ?_
            rintro e w3 ⟨rfl, a', hh3, hD3, hA3, hF3, hU3⟩
            have hset := qset1 qs r ⟨p.D, a', p.m ++ d⟩ hrl (by rw [hpe])
            rw [hset] at hh3
            have HP3 : Hid (Four w3 w.heap.size gq (qs.set r ⟨p.D, a', p.m ++ d⟩)) := HP2.out.set hrl hU3 (fun i hi => by rw [hpe]; simpa using hi) _ hh3 ⟨hD3, HOK.out.2.1, hA3⟩ (.inl (by rw [hpe]))
            have HU3 : Hid (Upd [] w w3) := HU2.out.trans' hU3 (fun i hm hl => by
              have h1 := HP2.out.old
              have h2 := HOK.out.2.1
              simp at hm
              omega)
            have HM3 : Hid (∀ i (h : i < (qs.set r ⟨p.D, a', p.m ++ d⟩).length), (qs.set r ⟨p.D, a', p.m ++ d⟩)[i].m.length ≤ bt + L) := fun i hi => by
              by_cases hir : i = r
              · subst hir
                have := HMP.out
                have := HLL.out
                simp
                omega
              · rw [List.getElem_set_ne (fun e => hir e.symm)]
                have := HM.out i (by simpa using hi)
                omega
            clear hset hh3 hD3 hA3 hF3 hU3
            go_upto_region 28 with (fail)
            go_wp2_with (fail)
            go_roundw
            case rel => exact ⟨k + 1, bt + L, _, by omega, by go_num, by go_num, HSM.out, HP3.out, HM3.out, HU3.out⟩
            case measure => simp [intOf]; omega
          have q1 : (kind == 1) = false := by simpa using hk1
          by_cases hk2 : kind = 2
          · subst hk2
            have HQ0 : Hid (∀ W, Upd [] w2 W → W.cell? ⟨gq, r * 2, none⟩ = some (.pointer (some ⟨p.D, 0, none⟩))) := fun W hW => hW.cell c0 (by simp)
            obtain ⟨hrl, hpe⟩ := List.getElem?_eq_some_iff.1 HPP.out
            have hok := HP2.out.ok r hrl
            rw [hpe] at hok
            obtain ⟨Aa, ca, ea⟩ := hok.2.2.isSlice
            have HQ1 : Hid (∀ W, Upd [] w2 W → W.cell? ⟨gq, r * 2 + 1, none⟩ = some (.slice Aa p.m.length ca)) := fun W hW => by
              rw [cell_of_row _ _ _ _ _ _ (hW.heap HP2.out.heap (by simp)), List.getElem?_toArray, qCells_get1 qs r hrl, hpe, ea]
            have HMP : Hid (p.m.length ≤ bt) := by have := HM.out r hrl; rwa [hpe] at this
            have HOK := Lib.hid hok
            have HEA := Lib.hid ea
            have HRA : Hid (∀ W, Upd [] w2 W → RdB W (.slice Aa p.m.length ca) p.m) := fun W hW => by rw [← ea]; exact (hok.2.2.upd0 hW).rd
            clear hok ea
            obtain ⟨H, hH⟩ : ∃ H, sha512 p.m = H := ⟨_, rfl⟩
            have hHl : H.length = 64 := by rw [← hH]; exact sha512_length _
            have HS1 : Hid (∀ W, Upd [] w2 W → Calls Tryd.prog 11 #[.pointer (some ⟨p.D, 0, none⟩)] W fun e w' => e = .returned (.agg (H.map U8).toArray) ∧ Upd [] W w') := fun W hW => by
              rw [← hH]; exact digsum512 W p.D p.m (HOK.out.1.upd hW (by simp)) (HG.out.upd (HU2.out.trans hW) (by simp))
            have HS2 : Hid (∀ W, Upd [] w2 W → Calls Tryd.prog 12 #[.slice Aa p.m.length ca] W fun e w' => e = .returned (.agg (H.map U8).toArray) ∧ Upd [] W w') := fun W hW => by
              rw [← hH]; exact refsum512 W _ p.m (HRA.out W hW) (by have := HMP.out; have := HBT.out; omega) (H3.out.upd (HU2.out.trans hW) (by simp)) (HF3.out.upd (HU2.out.trans hW) (by simp))
            have hq := eql_w64 H H hHl hHl
            rw [show (H == H) = true by simp] at hq
            have hgd := guard_w64
            obtain ⟨cH, hcH⟩ : ∃ c, (H.map U8).toArray = c := ⟨_, rfl⟩
            rw [hcH] at HS1 HS2 hq
            clear hcH hHl hH
            go_upto_region 18 with (fail)
            try go_simp
            refine wp_region_quiet_all (Upd [] w2) (by kernel_rfl) (by kernel_rfl) (Upd.refl _ _).drew ?_
            refine wpQuiet_step (fun K hK => ?_)
            go_simp
            refine ⟨_, fun _ _ => rfl, hK _ ?_⟩
            clear hK K
            repeat (first
              | go_big_quiet_skip
              | (refine wpQuiet_valK rfl (quiet_of_yields (yields_cell (p := ⟨gq, r * 2, none⟩) rfl HQ0.out Tryd.underlying36 rfl)) (fun K hK => ?_); go_simp; refine hK _ ?_; clear hK K)
              | (refine wpQuiet_valK rfl (quiet_of_yields (yields_cell (p := ⟨gq, r * 2 + 1, none⟩) rfl HQ1.out Tryd.underlying25 rfl)) (fun K hK => ?_); go_simp; refine hK _ ?_; clear hK K)
              | go_big_quiet_step ((intro hw2; first
                | rfl
                | ((with_reducible refine (HS1.out _ hw2).mono ?_); exact fun e w' h => ⟨h.1, hw2.trans h.2⟩)
                | ((with_reducible refine (HS2.out _ hw2).mono ?_); exact fun e w' h => ⟨h.1, hw2.trans h.2⟩)
                )))
            refine wpQuiet_nil ?_
            intro w3 hU3
            have HU3 := Lib.hid hU3
            clear hU3
            go_upto_region 28 with (fail)
            go_wp2_with (fail)
            go_roundw
            case rel => exact ⟨k + 1, bt + L, qs, by omega, by go_num, by go_num, HSM.out, HP2.out.upd0 HU3.out, fun i hi => by have := HM.out i hi; omega, HU2.out.trans HU3.out⟩
            case measure => simp [intOf]; omega
          have q2 : (kind == 2) = false := by simpa using hk2
          by_cases hk3 : kind = 3
          · subst hk3
            have HQ0 : Hid (∀ W, Upd [] w2 W → W.cell? ⟨gq, r * 2, none⟩ = some (.pointer (some ⟨p.D, 0, none⟩))) := fun W hW => hW.cell c0 (by simp)
            obtain ⟨hrl, hpe⟩ := List.getElem?_eq_some_iff.1 HPP.out
            have hok := HP2.out.ok r hrl
            rw [hpe] at hok
            obtain ⟨Aa, ca, ea⟩ := hok.2.2.isSlice
            have HQ1 : Hid (∀ W, Upd [] w2 W → W.cell? ⟨gq, r * 2 + 1, none⟩ = some (.slice Aa p.m.length ca)) := fun W hW => by
              rw [cell_of_row _ _ _ _ _ _ (hW.heap HP2.out.heap (by simp)), List.getElem?_toArray, qCells_get1 qs r hrl, hpe, ea]
            have HMP : Hid (p.m.length ≤ bt) := by have := HM.out r hrl; rwa [hpe] at this
            have HOK := Lib.hid hok
            have HEA := Lib.hid ea
            have HRA : Hid (∀ W, Upd [] w2 W → RdB W (.slice Aa p.m.length ca) p.m) := fun W hW => by rw [← ea]; exact (hok.2.2.upd0 hW).rd
            clear hok ea
            have HS1 : Hid (∀ W, Upd [] w2 W → Calls Tryd.prog 13 #[.pointer (some ⟨p.D, 0, none⟩)] W fun e w' => e = .returned (U64 (BitVec.ofInt 64 (p.m.length : Int))) ∧ Upd [] W w') := fun W hW => by
              rw [ofInt_nat]
              exact (lenof512 W p.D p.m (HOK.out.1.upd hW (by simp))).mono (fun e w' h => ⟨h.1, by rw [← h.2]; exact Upd.refl _ _⟩)
            go_upto_region 20 with (fail)
            try go_simp
            refine wp_region_quiet_all (Upd [] w2) (by kernel_rfl) (by kernel_rfl) (Upd.refl _ _).drew ?_
            refine wpQuiet_step (fun K hK => ?_)
            go_simp
            refine ⟨_, fun _ _ => rfl, hK _ ?_⟩
            clear hK K
            repeat (first
              | go_big_quiet_skip
              | (refine wpQuiet_valK rfl (quiet_of_yields (yields_cell (p := ⟨gq, r * 2, none⟩) rfl HQ0.out Tryd.underlying36 rfl)) (fun K hK => ?_); go_simp; refine hK _ ?_; clear hK K)
              | (refine wpQuiet_valK rfl (quiet_of_yields (yields_cell (p := ⟨gq, r * 2 + 1, none⟩) rfl HQ1.out Tryd.underlying25 rfl)) (fun K hK => ?_); go_simp; refine hK _ ?_; clear hK K)
              | go_big_quiet_step ((intro hw2; first
                | rfl
                | ((with_reducible refine (HS1.out _ hw2).mono ?_); exact fun e w' h => ⟨h.1, hw2.trans h.2⟩)
                )))
            refine wpQuiet_nil ?_
            intro w3 hU3
            have HU3 := Lib.hid hU3
            clear hU3
            go_upto_region 28 with (fail)
            go_wp2_with (fail)
            go_roundw
            case rel => exact ⟨k + 1, bt + L, qs, by omega, by go_num, by go_num, HSM.out, HP2.out.upd0 HU3.out, fun i hi => by have := HM.out i hi; omega, HU2.out.trans HU3.out⟩
            case measure => simp [intOf]; omega
          have q3 : (kind == 3) = false := by simpa using hk3
          by_cases hk4 : kind = 4
          · subst hk4
            have HQ0 : Hid (∀ W, Upd [] w2 W → W.cell? ⟨gq, r * 2, none⟩ = some (.pointer (some ⟨p.D, 0, none⟩))) := fun W hW => hW.cell c0 (by simp)
            obtain ⟨hrl, hpe⟩ := List.getElem?_eq_some_iff.1 HPP.out
            have hok := HP2.out.ok r hrl
            rw [hpe] at hok
            obtain ⟨Aa, ca, ea⟩ := hok.2.2.isSlice
            have HQ1 : Hid (∀ W, Upd [] w2 W → W.cell? ⟨gq, r * 2 + 1, none⟩ = some (.slice Aa p.m.length ca)) := fun W hW => by
              rw [cell_of_row _ _ _ _ _ _ (hW.heap HP2.out.heap (by simp)), List.getElem?_toArray, qCells_get1 qs r hrl, hpe, ea]
            have HMP : Hid (p.m.length ≤ bt) := by have := HM.out r hrl; rwa [hpe] at this
            have HOK := Lib.hid hok
            have HEA := Lib.hid ea
            have HRA : Hid (∀ W, Upd [] w2 W → RdB W (.slice Aa p.m.length ca) p.m) := fun W hW => by rw [← ea]; exact (hok.2.2.upd0 hW).rd
            clear hok ea
            obtain ⟨s, hs2⟩ : ∃ s, frm.toNat % 4 = s := ⟨_, rfl⟩
            have hsq : s < 4 := by rw [← hs2]; exact Nat.mod_lt _ (by omega)
            have hsi : (s : Int) < 4 := by omega
            have hmods : ((frm.toNat : Int)).tmod 4 = (s : Int) := by rw [← hs2]; rfl
            have hwls : (frm.toNat : Int) < 256 := by have := frm.isLt; omega
            have hsl : s < qs.length := by have := HQL.out; omega
            obtain ⟨q, hqe⟩ : ∃ q, qs[s] = q := ⟨_, rfl⟩
            have hqok := HP2.out.ok s hsl
            rw [hqe] at hqok
            obtain ⟨Ab, cb, eb⟩ := hqok.2.2.isSlice
            have HQOK := Lib.hid hqok
            have HEB := Lib.hid eb
            have hrs : w2.rangeAt gq (s * 2) [.pointer (some ⟨q.D, 0, none⟩), .slice Ab q.m.length cb] := fun j u hj => by
              rw [cell_of_row _ _ _ _ _ _ HP2.out.heap, List.getElem?_toArray]
              have hj2 : j < 2 := (List.getElem?_eq_some_iff.1 hj).1
              match j, hj2 with
              | 0, _ => rw [Nat.add_zero, qCells_get0 qs s hsl, hqe]; simpa using hj
              | 1, _ => rw [qCells_get1 qs s hsl, hqe, eb]; simpa using hj
            have hs2p : (Tryd.prog.info? 38).map (·.size) = some ([.pointer (some ⟨q.D, 0, none⟩), .slice Ab q.m.length cb] : List Value).length := size_pair3
            have hs2a : (Tryd.prog.info? 38).map (·.size) = some (#[.pointer (some ⟨q.D, 0, none⟩), .slice Ab q.m.length cb] : Array Value).size := size_pair3
            have ho2a : zpair3.size = (#[.pointer (some ⟨q.D, 0, none⟩), .slice Ab q.m.length cb] : Array Value).size := rfl
            have ha2a : (#[.pointer (some ⟨q.D, 0, none⟩), .slice Ab q.m.length cb] : Array Value).all (·.oneCell') = true := by simp [Value.oneCell']
            have HMQ : Hid (q.m.length ≤ bt) := by have := HM.out s hsl; rwa [hqe] at this
            have HSL := Lib.hid hsl
            have HQE : Hid (qs[s]? = some q) := by show qs[s]? = some q; rw [List.getElem?_eq_getElem hsl, hqe]
            clear hs2 hsq hsl hqok eb hqe
            go_upto_region 22 with (fail)
            try go_simp
            go_wp2_with (first
              | (with_reducible refine arm_load_mid (by with_unfolding_all exact rfl) hrs Tryd.underlying38 (by with_unfolding_all exact rfl) hs2p ?_)
              | (with_reducible refine arm_alloc (zero_pair3 _) ?_))
            intro b9 w3 hb9 k9 hU3 hz3
            change w3.heap[b9]? = some (.cells zpair3 38 (0, 0)) at k9
            go_wp2_with (with_reducible refine arm_store (by with_unfolding_all exact rfl) (by with_unfolding_all exact rfl) k9 hs2a ho2a ha2a ?_)
            intro w4 k10 hX4 hz4
            have hT4 := hU3.fresh hb9 hX4
            have hP4 := HP2.out.upd0 hT4
            have hV4 := HU2.out.trans hT4
            have c90 : w4.cell? ⟨b9, 0, none⟩ = some (.pointer (some ⟨q.D, 0, none⟩)) := by rw [cell_of_row _ _ _ _ _ _ k10]; rfl
            have hb9l : gq ≠ b9 := by have := lt_of_heap HP2.out.heap; omega
            have HB9 : Hid (gq ≠ b9) := hb9l
            have HK10 := Lib.hid k10
            have HP4 := Lib.hid hP4
            have HV4 := Lib.hid hV4
            clear hb9 k9 hU3 hz3 hX4 hz4 hT4 hP4 hV4 k10 hrs hs2p hs2a ho2a ha2a hb9l hmods hwls
            go_wp2_with (fail)
            refine (cloneof512 _ q.D q.m (by obtain ⟨h1, h2⟩ := List.getElem?_eq_some_iff.1 HQE.out; have := (HP4.out.ok s h1).1; rwa [h2] at this)).mono ?_
            rintro e w5 ⟨rfl, hF5, hU5⟩
            obtain ⟨F, hF⟩ : ∃ F, w4.heap.size = F := ⟨_, rfl⟩
            rw [hF] at hF5 ⊢
            have HFl : Hid (w4.heap.size ≤ F) := Nat.le_of_eq hF
            have hh5 := hU5.heap HP4.out.heap (by simp)
            have hK5 := hU5.heap HK10.out (by simp)
            have hsz0 : r * 2 < (qCells qs).toArray.size := by simp only [List.size_toArray, qCells_length]; omega
            have HF5 := Lib.hid hF5
            have HU5 := Lib.hid hU5
            clear hF hF5 hU5 c90
            go_wp2_with (with_reducible refine arm_store_at (by with_unfolding_all exact rfl) (by with_unfolding_all exact rfl) hh5 hsz0 (by with_unfolding_all exact rfl) size_digp (by with_unfolding_all exact rfl) ?_)
            intro w6 hh6 hX6 hz6
            change w6.heap[gq]? = some (.cells ((qCells qs).toArray.setIfInBounds (r * 2) (.pointer (some ⟨F, 0, none⟩))) 38 (0, 0)) at hh6
            have hset0 := qset0 qs r ⟨F, p.a, q.m⟩ hrl (by rw [hpe])
            rw [hset0] at hh6
            have hK6 := hX6.heap hK5 (fun hm => HB9.out (List.mem_singleton.1 hm).symm)
            have c91 : w6.cell? ⟨b9, 1, none⟩ = some (.slice Ab q.m.length cb) := by rw [cell_of_row _ _ _ _ _ _ hK6]; rfl
            have hsz1 : r * 2 + 1 < (qCells (qs.set r ⟨F, p.a, q.m⟩)).toArray.size := by simp only [List.size_toArray, qCells_length, List.length_set]; omega
            have HX6 := Lib.hid hX6
            clear hset0 hX6 hz6 hh5 hK5 hsz0 hK6
            go_upto_region 24 with (fail)
            try go_simp
            go_wp2_with (with_reducible refine arm_store_at (by with_unfolding_all exact rfl) (by with_unfolding_all exact rfl) hh6 hsz1 (by with_unfolding_all exact rfl) size_bytesv (by with_unfolding_all exact rfl) ?_)
            intro w7 hh7 hX7 hz7
            change w7.heap[gq]? = some (.cells ((qCells (qs.set r ⟨F, p.a, q.m⟩)).toArray.setIfInBounds (r * 2 + 1) (.slice Ab q.m.length cb)) 38 (0, 0)) at hh7
            have hset1 := qset1 (qs.set r ⟨F, p.a, q.m⟩) r ⟨F, .slice Ab q.m.length cb, q.m⟩ (by simpa using hrl) (by simp)
            rw [hset1, List.set_set] at hh7
            have hU7 : Upd [gq] w4 w7 := (HU5.out.of0.trans' HX6.out (fun i hm _ => hm)).trans hX7
            have hgF : F ≠ gq := by have := lt_of_heap HP4.out.heap; have := HFl.out; omega
            have hFl2 := HFl.out
            have hV0 := HU2.out.size
            have hV1 := HV4.out.size
            have hA4 := HP4.out
            have hq4 : OwnB w4 w.heap.size (.slice Ab q.m.length cb) q.m := by
              obtain ⟨h1, h2⟩ := List.getElem?_eq_some_iff.1 HQE.out
              have := (HP4.out.ok s h1).2.2
              rw [h2, HEB.out] at this
              exact this
            have hq7 := hq4.upd hU7 (fun i hi hm => own_pair3 hq4 HP4.out.heap (by rw [hi, List.mem_singleton.1 hm]))
            have HP7 : Hid (Four w7 w.heap.size gq (qs.set r ⟨F, .slice Ab q.m.length cb, q.m⟩)) := HP4.out.set hrl hU7 (fun i hi => .inl (List.mem_singleton.1 hi)) _ hh7 ⟨(HF5.out.upd HX6.out (fun hm => hgF (List.mem_singleton.1 hm))).upd hX7 (fun hm => hgF (List.mem_singleton.1 hm)), by show w.heap.size ≤ F; omega, hq7⟩ (.inr hFl2)
            have HU7 : Hid (Upd [] w w7) := HV4.out.trans' hU7 (fun i hm hl => by have := HP4.out.old; have := List.mem_singleton.1 hm; omega)
            have HM7 : Hid (∀ i (h : i < (qs.set r ⟨F, .slice Ab q.m.length cb, q.m⟩).length), (qs.set r ⟨F, .slice Ab q.m.length cb, q.m⟩)[i].m.length ≤ bt + L) := fun i hi => by
              by_cases hir : i = r
              · subst hir
                have := HMQ.out
                simp
                omega
              · rw [List.getElem_set_ne (fun e => hir e.symm)]
                have := HM.out i (by simpa using hi)
                omega
            clear hset1 hh7 hX7 hz7 hU7 hgF hFl2 hV0 hV1 hA4 hq4 hq7 hh6 hsz1 c91
            go_upto_region 28 with (fail)
            go_wp2_with (fail)
            go_roundw
            case rel => exact ⟨k + 1, bt + L, _, by omega, by go_num, by go_num, HSM.out, HP7.out, HM7.out, HU7.out⟩
            case measure => simp [intOf]; omega
          have q4 : (kind == 4) = false := by simpa using hk4
          by_cases hk5 : kind = 5
          · subst hk5
            have HQ0 : Hid (∀ W, Upd [] w2 W → W.cell? ⟨gq, r * 2, none⟩ = some (.pointer (some ⟨p.D, 0, none⟩))) := fun W hW => hW.cell c0 (by simp)
            obtain ⟨hrl, hpe⟩ := List.getElem?_eq_some_iff.1 HPP.out
            have hok := HP2.out.ok r hrl
            rw [hpe] at hok
            obtain ⟨Aa, ca, ea⟩ := hok.2.2.isSlice
            have HQ1 : Hid (∀ W, Upd [] w2 W → W.cell? ⟨gq, r * 2 + 1, none⟩ = some (.slice Aa p.m.length ca)) := fun W hW => by
              rw [cell_of_row _ _ _ _ _ _ (hW.heap HP2.out.heap (by simp)), List.getElem?_toArray, qCells_get1 qs r hrl, hpe, ea]
            have HMP : Hid (p.m.length ≤ bt) := by have := HM.out r hrl; rwa [hpe] at this
            have HOK := Lib.hid hok
            have HEA := Lib.hid ea
            have HRA : Hid (∀ W, Upd [] w2 W → RdB W (.slice Aa p.m.length ca) p.m) := fun W hW => by rw [← ea]; exact (hok.2.2.upd0 hW).rd
            clear hok ea
            go_upto_region 26 with (fail)
            try go_simp
            go_wp2_with (fail)
            refine (resetof512 _ p.D p.m HOK.out.1 (glf_upd HF.out HU2.out (by simp))).mono ?_
            rintro e w3 ⟨⟨y3, rfl⟩, hD3, hU3⟩
            have hDg := dig_pair3 HOK.out.1 HP2.out.heap
            have hh3 := hU3.heap HP2.out.heap (fun hm => hDg (List.mem_singleton.1 hm).symm)
            have hsz : r * 2 + 1 < (qCells qs).toArray.size := by simp only [List.size_toArray, qCells_length]; omega
            go_upto_region 27 with (fail)
            try go_simp
            go_wp2_with (with_reducible refine arm_store_at (by with_unfolding_all exact rfl) (by with_unfolding_all exact rfl) hh3 hsz (by with_unfolding_all exact rfl) size_bytesv (by with_unfolding_all exact rfl) ?_)
            intro w4 hh4 hX4 hz4
            change w4.heap[gq]? = some (.cells ((qCells qs).toArray.setIfInBounds (r * 2 + 1) (.slice none 0 0)) 38 (0, 0)) at hh4
            have hset := qset1 qs r ⟨p.D, .slice none 0 0, []⟩ hrl (by rw [hpe])
            rw [hset] at hh4
            have hU4 : Upd [gq, p.D] w2 w4 := (hU3.mono (fun i hm _ => by simp [List.mem_singleton.1 hm])).trans' hX4 (fun i hm _ => by simp [List.mem_singleton.1 hm])
            have HP4 : Hid (Four w4 w.heap.size gq (qs.set r ⟨p.D, .slice none 0 0, []⟩)) := HP2.out.set hrl hU4 (fun i hi => by rw [hpe]; simpa using hi) _ hh4 ⟨hD3.upd hX4 (fun hm => hDg (List.mem_singleton.1 hm)), HOK.out.2.1, OwnB.nil _ _⟩ (.inl (by rw [hpe]))
            have HU4 : Hid (Upd [] w w4) := HU2.out.trans' hU4 (fun i hm hl => by
              have h1 := HP2.out.old
              have h2 := HOK.out.2.1
              simp at hm
              omega)
            have HM4 : Hid (∀ i (h : i < (qs.set r ⟨p.D, .slice none 0 0, []⟩).length), (qs.set r ⟨p.D, .slice none 0 0, []⟩)[i].m.length ≤ bt + L) := fun i hi => by
              by_cases hir : i = r
              · subst hir
                simp
              · rw [List.getElem_set_ne (fun e => hir e.symm)]
                have := HM.out i (by simpa using hi)
                omega
            clear hset hh4 hU4 hX4 hz4 hh3 hU3 hD3 hDg hsz
            go_upto_region 28 with (fail)
            go_wp2_with (fail)
            go_roundw
            case rel => exact ⟨k + 1, bt + L, _, by omega, by go_num, by go_num, HSM.out, HP4.out, HM4.out, HU4.out⟩
            case measure => simp [intOf]; omega
          have q5 : (kind == 5) = false := by simpa using hk5
          go_upto_region 28 with (fail)
          go_wp2_with (fail)
          go_roundw
          case rel => exact ⟨k + 1, bt + L, qs, by omega, by go_num, by go_num, HSM.out, HP2.out, fun i hi => by have := HM.out i hi; omega, HU2.out⟩
          case measure => simp [intOf]; omega
    · have ki : ¬ (k : Int) < (n : Int) := by omega
      have HEL2 : Hid (∀ j, j < 4 → ∃ (E ca : Nat) (Aa : Option Addr) (m : List (BitVec 8)), (∀ W, Upd [] wo W → W.cell? ⟨gq, j * 2, none⟩ = some (.pointer (some ⟨E, 0, none⟩)) ∧ Calls Tryd.prog 16 #[.pointer (some ⟨gq, j * 2, none⟩)] W fun e w' => e = .returned (.bool true) ∧ Upd [] W w')) := fun j hj => by
        have hj' : j < qs.length := by rw [HP.out.len]; exact hj
        have hok := HP.out.ok j hj'
        obtain ⟨Aa, ca, ea⟩ := hok.2.2.isSlice
        have hC0 : (qCells qs).toArray[j * 2]? = some (.pointer (some ⟨qs[j].D, 0, none⟩)) := by rw [List.getElem?_toArray, qCells_get0 qs j hj']
        have hC1 : (qCells qs).toArray[j * 2 + 1]? = some (.slice Aa qs[j].m.length ca) := by rw [List.getElem?_toArray, qCells_get1 qs j hj', ea]
        refine ⟨qs[j].D, ca, Aa, qs[j].m, fun W hW => ⟨by rw [cell_of_row _ _ _ _ _ _ (hW.heap HP.out.heap (by simp))]; exact hC0, ?_⟩⟩
        have hU := HU.out.trans hW
        exact told03 W gq j qs[j].D ca Aa (qCells qs).toArray qs[j].m (hW.heap HP.out.heap (by simp)) hC0 hC1 (hok.1.upd hW (by simp)) (by rw [← ea]; exact (hok.2.2.upd0 hW).rd) (by have := HM.out j hj'; have := HBT.out; omega) (HG.out.upd hU (by simp)) (H3.out.upd hU (by simp)) (HF3.out.upd hU (by simp))
      clear h
      go_upto_region 30 with (fail)
      go_wp2_with (fail)
      go_loopw [10] (fun jv w2 => ∃ j : Nat, j ≤ 4 ∧ jv = .int .i64 j ∧ Upd [] wo w2) (fun jv _ => 4 - (intOf jv).toNat)
      case atStart => exact ⟨0, by omega, rfl, Upd.refl _ _⟩
      case round =>
        obtain ⟨j, hj, rfl, hU2⟩ := hrel
        obtain ⟨wp, rfl⟩ : ∃ wp : World, wp = wr := ⟨_, rfl⟩
        by_cases hlt : j < 4
        · have ji : (j : Int) < 4 := by omega
          obtain ⟨E, ca, Aa, m, h1⟩ := HEL2.out j hlt
          have HTD := Lib.hid (h1 wp hU2).2
          have c0 := (h1 wp hU2).1
          have HU2 := Lib.hid hU2
          clear h1 hU2
          go_wp2_with (fail)
          with_reducible refine HTD.out.mono ?_
          rintro e w3 ⟨rfl, hU3⟩
          have hU4 := HU2.out.trans hU3
          go_wp2_with (fail)
          go_roundw
          case rel => exact ⟨j + 1, by omega, by go_num, hU4⟩
          case measure => simp [intOf]; omega
        · have ji : ¬ (j : Int) < 4 := by omega
          have hU4 := HU.out.trans hU2
          clear hU2
          go_wp2_with (fail)
          go_ret
          exact ⟨rfl, hU4⟩
end Go.Proofs.YtghdininkolanaaDoor
