/-
  The law Sha256Digests: every call on up to four Digests in every order.
-/
import Derived.Test.YtghdininkolanaaDoorDAsked
import Derived.Test.YtghdininkolanaaDoorOpen
namespace Go.Proofs.YtghdininkolanaaDoor
open Go Go.RowKit Go.Proofs
/-- one call of a script -/
structure DOp where
  kind : Int
  who : BitVec 8
  data : List (BitVec 8)
/-- a script that can be read -/
def RdO (w : World) (v : Value) (os : List DOp) : Prop := ∃ A c, v = .slice A os.length c ∧ (0 < os.length → ∃ g p, A = some ⟨g, p, none⟩ ∧ ∀ i (h : i < os.length), ∃ Av cv, w.rangeAt g (p + i * 3) [.int .i64 os[i].kind, U8 os[i].who, .slice Av os[i].data.length cv] ∧ RdB w (.slice Av os[i].data.length cv) os[i].data)
theorem size_op : (Tryd.prog.info? 32).map (·.size) = some 3 := by kernel_rfl
theorem built_pair1 (E : Nat) : Tryd.prog.built 27 [(0, .pointer (some ⟨E, 0, none⟩))] = some #[.pointer (some ⟨E, 0, none⟩), .slice none 0 0, .slice none 0 0] := by kernel_rfl
theorem arm_build1 {P : Program} {ops : Array Oper} {rest : List Oper} {a : Act} {w : World} {Q : Exit → Act → World → Prop} {dst : Option Tmp} {ty type : TypeId} {pos : String} {after : Array Edge} {x0 : Operand} {v0 : Value} {cs : Array Value}
    (h0 : a.eval x0 = v0) (hf : P.built ty [(0, v0)] = some cs) (h : wpList P ops Q rest (a.put dst (.agg cs)) w) : wpList P ops Q (⟨dst, .build ty #[(0, x0)], type, pos, after, none⟩ :: rest) a w := by
  subst h0
  exact arm_build (by simpa using hf) h
theorem own_one {w : World} {B g size : Nat} {T : TypeId} {cs : List Value} (hs : cs.length = size) (hh : w.heap[g]? = some (.cells cs.toArray T (0, 0))) (hB : B ≤ g) : w.ownsRow B T size (.slice (some ⟨g, 0, none⟩) 1 1) 1 cs :=
  ⟨by rw [hs, Nat.one_mul], .inr ⟨g, 1, cs.toArray, rfl, hB, hh, Nat.le_refl _, by simp [maxLen], by simp [hs], by simp [← hs]⟩⟩
theorem yields_mid {P : Program} {S : World → Prop} {a : Act} {ty type : TypeId} {x : Operand} {pos : String} {after : Array Edge} {gd : Option (Nat × Bool)} {dst : Option Tmp} {g k : Nat} {cs : List Value} {d : TypeDesc} (hx : a.eval x = .pointer (some ⟨g, k, none⟩)) (hc : ∀ w, S w → w.rangeAt g k cs) (hu : P.underlying ty = some d) (hd : d.isRow = true) (hi : (P.info? ty).map (·.size) = some cs.length) :
    ∀ w, S w → (execOp a.eval ⟨dst, .load ty x, type, pos, after, gd⟩).run P w = .ok (.value (.agg cs.toArray)) w := by
  intro w hS
  unfold execOp
  simp only [hx, Instr.loadAt, Instr.sureAddr, Sem.run_bind, Sem.run_pure, Result.andThen_ok, run_loadVar_mid w g k ty cs d (hc w hS) hu hd hi]
theorem yields_rem {P : Program} {S : World → Prop} {a : Act} {dst : Option Tmp} {t type : TypeId} {pos : String} {after : Array Edge} {gd : Option (Nat × Bool)} {x y : Operand} {m n r : Nat} {it : TypeId}
    (hx : a.eval x = .int .i64 m) (hy : a.eval y = .int .i64 n) (hn : 0 < n) (hr : m % n = r) (hb : n ≤ 1000000) :
    ∀ w, S w → (execOp a.eval ⟨dst, .binOp .rem t x y it, type, pos, after, gd⟩).run P w = .ok (.value (.int .i64 r)) w := by
  intro w _
  subst hr
  have hlt := Nat.mod_lt m hn
  have hn1 : ¬ n = 0 := by omega
  have hmod : ((m : Int)).tmod (n : Int) = ((m % n : Nat) : Int) := rfl
  unfold execOp
  simp only [hx, hy]
  simp [go_sem, hn1, hmod]
theorem yields_conv8 {S : World → Prop} {a : Act} {dst : Option Tmp} {type : TypeId} {pos : String} {after : Array Edge} {gd : Option (Nat × Bool)} {x : Operand} {y : BitVec 8} (hx : a.eval x = U8 y) :
    ∀ w, S w → (execOp a.eval ⟨dst, .convert 5 3 x, type, pos, after, gd⟩).run Tryd.prog w = .ok (.value (.int .i64 (y.toNat : Int))) w := by
  intro w _
  have hy := y.isLt
  have hwr : IntKind.i64.wrap (y.toNat : Int) = (y.toNat : Int) := by simp only [IntKind.wrap, IntKind.bits, IntKind.signed]; simp; omega
  unfold execOp
  simp only [hx]
  simp [go_sem, hwr]
set_option maxRecDepth 100000 in
set_option maxHeartbeats 12800000 in
theorem law_digests256 (w : World) (v : Value) (os : List DOp) (hv : RdO w v os) (hol : os.length ≤ 1048576) (hod : ∀ o ∈ os, o.data.length ≤ 1048576) (hg : Gl256 w) (hf : GlFirst256 w) :
    Calls Tryd.prog 3 #[v] w fun e w' => e = .returned (.bool true) ∧ Upd [] w w' := by
  obtain ⟨A, c, rfl, hA⟩ := hv
  obtain ⟨n, hn⟩ : ∃ n, os.length = n := ⟨_, rfl⟩
  rw [hn] at hol ⊢
  have HEL : Hid (∀ i, i < n → ∃ (g p : Nat) (o : DOp) (Av : Option Addr) (cv : Nat), A = some ⟨g, p, none⟩ ∧ w.rangeAt g (p + i * 3) [.int .i64 o.kind, U8 o.who, .slice Av o.data.length cv] ∧ RdB w (.slice Av o.data.length cv) o.data ∧ o.data.length ≤ 1048576) := fun i hi => by
    obtain ⟨g, p, e1, h1⟩ := hA (by omega)
    obtain ⟨Av, cv, h2, h3⟩ := h1 i (by omega)
    exact ⟨g, p, _, Av, cv, e1, h2, h3, hod _ (List.getElem_mem _)⟩
  have HNW : Hid (∀ W, Upd [] w W → Calls Tryd.prog 6 #[] W fun e w' => ∃ D, e = .returned (.pointer (some ⟨D, 0, none⟩)) ∧ W.heap.size ≤ D ∧ DigOf256 w' D [] ∧ Upd [] W w') := fun W hW =>
    (new256 W (hf.upd hW (by simp))).mono (fun e w' h => ⟨_, h.1, Nat.le_refl _, DigOf256.new h.2.1, h.2.2⟩)
  have HG := Lib.hid hg
  have HF := Lib.hid hf
  have hni : (n : Int) ≤ 1048576 := by omega
  clear hA hod hn hg hf hol
  go_enter Tryd.func3, Tryd.ntmps3
  go_wp2_with (fail)
  with_reducible refine (HNW.out _ (Upd.refl _ _)).mono ?_
  rintro e w1 ⟨D, rfl, hDB, hD1, hU1⟩
  have hbt := built_pair1 D
  go_wp2_with (first
    | (with_reducible refine arm_build1 (by with_unfolding_all exact rfl) hbt ?_)
    | (with_reducible refine bsP (l := [Value.pointer (some ⟨D, 0, none⟩), .slice none 0 0, .slice none 0 0]) (cs := #[Value.pointer (some ⟨D, 0, none⟩), .slice none 0 0, .slice none 0 0]) (by with_unfolding_all exact rfl) (by with_unfolding_all exact rfl) (by with_unfolding_all exact rfl) ?_))
  intro g2 w2 hg2 hk2 hU2
  have hrow2 : w2.ownsRow w.heap.size 27 3 (.slice (some ⟨g2, 0, none⟩) 1 1) 1 (dCells [⟨D, .slice none 0 0, .slice none 0 0, []⟩]) := own_one rfl hk2 (by have := hU1.size; omega)
  have hP2 : Pairs w2 w.heap.size (.slice (some ⟨g2, 0, none⟩) 1 1) [⟨D, .slice none 0 0, .slice none 0 0, []⟩] := by
    refine ⟨hrow2, by simp, fun i hi => ?_, fun i j hi hj hij => ?_, fun i j hi hj hij b hb => ?_, fun i j hi hj b hb => ?_⟩
    · have : i = 0 := by simpa using hi
      subst this
      exact ⟨hD1.upd hU2 (by simp), hDB, OwnB.nil _ _, [], OwnB.nil _ _⟩
    · simp at hi hj; omega
    · simp at hi hj; omega
    · have : i = 0 := by simpa using hi
      subst this
      cases hb
  have hV2 := hU1.trans hU2
  have HM0 : Hid (∀ i (h : i < [(⟨D, .slice none 0 0, .slice none 0 0, []⟩ : DPair)].length), ([(⟨D, .slice none 0 0, .slice none 0 0, []⟩ : DPair)][i]).m.length ≤ 0 * 1048576) := fun i hi => by
    have : i = 0 := by simpa using hi
    subst this
    simp
  have HP2 := Lib.hid hP2
  have HV2 := Lib.hid hV2
  clear hrow2 hP2 hV2 hU1 hU2 hg2 hk2 hD1 hbt hDB
  go_upto_region 6 with (fail)
  go_wp2_with (fail)
  go_loopw [4, 5, 6] (fun lv okv iv wr => ∃ (k : Nat) (ps : List DPair), k ≤ n ∧ iv = .int .i64 k ∧ okv = .bool true ∧ Pairs wr w.heap.size lv ps ∧ ps.length ≤ 4 ∧ (∀ i (h : i < ps.length), ps[i].m.length ≤ k * 1048576) ∧ Upd [] w wr) (fun _ _ iv _ => n - (intOf iv).toNat)
  case atStart => exact ⟨0, _, by omega, rfl, rfl, HP2.out, by simp, HM0.out, HV2.out⟩
  case round =>
    obtain ⟨k, ps, hk, rfl, rfl, hP, h4, hm, hU⟩ := hrel
    obtain ⟨g, cap, el, hgB, hgl, hnc, hcm, _⟩ := hP.at
    obtain ⟨q, hq⟩ : ∃ q, ps.length = q := ⟨_, rfl⟩
    have h1 := hP.one
    rw [hq] at el h4 h1
    have hq4 : (q : Int) ≤ 4 := by omega
    have hq1 : (1 : Int) ≤ (q : Int) := by omega
    have HPP := Lib.hid hP
    have HU := Lib.hid hU
    have HM := Lib.hid hm
    have HQ := Lib.hid hq
    have HH4 : Hid (q ≤ 4) := h4
    have HH1 : Hid (1 ≤ q) := h1
    obtain ⟨wo, rfl⟩ : ∃ wo : World, wo = wr := ⟨_, rfl⟩
    by_cases h : k < n
    · have ki : (k : Int) < (n : Int) := by omega
      obtain ⟨go, po, o, Av, cv, rfl, hr, hrd, hdl⟩ := HEL.out k h
      obtain ⟨od, hod⟩ : ∃ x, o.data = x := ⟨_, rfl⟩
      obtain ⟨ow, how⟩ : ∃ x, o.who = x := ⟨_, rfl⟩
      obtain ⟨ok, hok⟩ : ∃ x, o.kind = x := ⟨_, rfl⟩
      rw [hod, how, hok] at hr
      rw [hod] at hrd hdl
      obtain ⟨r, hr2⟩ : ∃ r, ow.toNat % q = r := ⟨_, rfl⟩
      have hrq : r < q := by rw [← hr2]; exact Nat.mod_lt _ h1
      have hmod : ((ow.toNat : Int)).tmod (q : Int) = (r : Int) := by rw [← hr2]; rfl
      have hwl : (ow.toNat : Int) < 256 := by have := ow.isLt; omega
      have HRD := Lib.hid hrd
      have HDL : Hid (od.length ≤ 1048576) := hdl
      have HRQ : Hid (r < q) := hrq
      have HSTP : Hid (∀ W, Upd [] wo W → Calls Tryd.prog 7 #[.slice (some ⟨g, 0, none⟩) q cap, .int .i64 r, .agg #[.int .i64 ok, U8 ow, .slice Av od.length cv]] W (Stepped w (k * 1048576 + 1048576))) := fun W hW => by
        have := step02 w W (.slice (some ⟨g, 0, none⟩) q cap) (.slice Av od.length cv) ps r (k * 1048576) ok ow od (HU.out.trans hW) (by rw [← el]; exact HPP.out.upd0 hW) (by rw [HQ.out]; exact hrq) (by rw [HQ.out]; exact h4) hrd hdl HM.out (by omega) HG.out HF.out
        exact this
      have HC1 : Hid (∀ W, Upd [] w W → W.cell? ⟨go, po + k * 3 + 1, none⟩ = some (U8 ow)) := fun W hW => hW.cell (by have := hr 1 (U8 ow) rfl; simpa using this) (by simp)
      have HC3 : Hid (∀ W, Upd [] w W → W.rangeAt go (po + k * 3) [.int .i64 ok, U8 ow, .slice Av od.length cv]) := fun W hW => fun j u hj => hW.cell (hr j u hj) (by simp)
      have hs3 : (Tryd.prog.info? 32).map (·.size) = some ([.int .i64 ok, U8 ow, .slice Av od.length cv] : List Value).length := size_op
      rw [el]
      clear hP hU hm hr hrd hdl el hod how hok
      go_upto_region 9 with (fail)
      refine wp_region_orders [0, 1, 2, 3, 4, 5, 6, 7, 8, 9, 10, 11, 12, 13] (.step 14 (.step 15 (.step 16 (.step 17 (.step 18 (.step 19 .none .none) .none) (.step 18 (.step 17 (.step 19 .none .none) .none) .none)) (.step 17 (.step 16 (.step 18 (.step 19 .none .none) .none) .none) .none)) .none) .none) (Upd [] w) (by kernel_rfl) (by kernel_rfl) HU.out.drew ?_
      refine takeO_cons _ (.slice (some ⟨g, 0, none⟩) q cap) rfl (by kernel_rfl) (yields_move (by kernel_rfl)) ?_
      refine takeO_cons _ (.slice (some ⟨go, po, none⟩) n c) rfl (by kernel_rfl) (yields_move (by kernel_rfl)) ?_
      refine takeO_cons _ (.int .i64 k) rfl (by kernel_rfl) (yields_move (by kernel_rfl)) ?_
      refine takeO_cons _ (.pointer (some ⟨go, po + k * 3, none⟩)) rfl (by kernel_rfl) (yields_index (c := c) (size := 3) (i := k) (e := 32) Tryd.underlying22 (by kernel_rfl) size_op (by kernel_rfl) (by kernel_rfl) rfl (by omega) rfl) ?_
      refine takeO_cons _ (.pointer (some ⟨go, po + k * 3 + 1, none⟩)) rfl (by kernel_rfl) (fun w _ => by kernel_rfl) ?_
      refine takeO_cons _ (U8 ow) rfl (by kernel_rfl) (yields_cell (p := ⟨go, po + k * 3 + 1, none⟩) (by kernel_rfl) HC1.out Tryd.underlying5 rfl) ?_
      refine takeO_cons _ (.int .i64 ow.toNat) rfl (by kernel_rfl) (yields_conv8 (by kernel_rfl)) ?_
      refine takeO_cons _ (.slice (some ⟨g, 0, none⟩) q cap) rfl (by kernel_rfl) (yields_move (by kernel_rfl)) ?_
      refine takeO_cons _ (.int .i64 q) rfl (by kernel_rfl) (fun w _ => by kernel_rfl) ?_
      refine takeO_cons _ (.int .i64 r) rfl (by kernel_rfl) (yields_rem (m := ow.toNat) (n := q) (by kernel_rfl) (by kernel_rfl) (by omega) hr2 (by omega)) ?_
      refine takeO_cons _ (.slice (some ⟨go, po, none⟩) n c) rfl (by kernel_rfl) (yields_move (by kernel_rfl)) ?_
      refine takeO_cons _ (.int .i64 k) rfl (by kernel_rfl) (yields_move (by kernel_rfl)) ?_
      refine takeO_cons _ (.pointer (some ⟨go, po + k * 3, none⟩)) rfl (by kernel_rfl) (yields_index (c := c) (size := 3) (i := k) (e := 32) Tryd.underlying22 (by kernel_rfl) size_op (by kernel_rfl) (by kernel_rfl) rfl (by omega) rfl) ?_
      refine takeO_cons _ (.agg #[.int .i64 ok, U8 ow, .slice Av od.length cv]) rfl (by kernel_rfl) (yields_mid (by kernel_rfl) HC3.out Tryd.underlying32 rfl hs3) ?_
      refine takeO_nil (by simp [Ord.first]) ?_
      refine ordP_step _ (by simp only [List.getElem?_toArray, List.getElem?_cons_succ, List.getElem?_cons_zero]; rfl) ?_ ordP_none
      go_wp2_with (fail)
      with_reducible refine (HSTP.out _ (Upd.refl _ _).drew).mono ?_
      rintro e w' ⟨lv', ps', rfl, hP', h4', hm', hT'⟩
      have HP' := Lib.hid hP'
      have HT' := Lib.hid hT'
      clear hP' hT'
      go_wp2_with (fail)
      refine ord_more (by simp [Ord.first]) HT'.out ?_
      refine ordP_step _ (by simp only [List.getElem?_toArray, List.getElem?_cons_succ, List.getElem?_cons_zero]; rfl) ?_ ordP_none
      go_wp2_with (fail)
      refine ord_more (by simp [Ord.first]) HT'.out ?_
      refine ordP_step _ (by simp only [List.getElem?_toArray, List.getElem?_cons_succ, List.getElem?_cons_zero]; rfl) ?_ ?_
      · go_wp2_with (fail)
        refine ord_more (by simp [Ord.first]) HT'.out ?_
        refine ordP_step _ (by simp only [List.getElem?_toArray, List.getElem?_cons_succ, List.getElem?_cons_zero]; rfl) ?_ ?_
        · go_wp2_with (fail)
          refine ord_more (by simp [Ord.first]) HT'.out ?_
          refine ordP_step _ (by simp only [List.getElem?_toArray, List.getElem?_cons_succ, List.getElem?_cons_zero]; rfl) ?_ ordP_none
          go_wp2_with (fail)
          refine ord_more (by simp [Ord.first]) HT'.out ?_
          refine ordP_step _ (by simp only [List.getElem?_toArray, List.getElem?_cons_succ, List.getElem?_cons_zero]; rfl) ?_ ordP_none
          go_wp2_with (fail)
          refine ord_last HT'.out ?_
          show Exit.then _ _ Exit.normal _ _
          go_upto_region 8 with (fail)
          go_wp2_with (fail)
          go_roundw
          case rel => exact ⟨k + 1, ps', by omega, by go_num, rfl, HP'.out, h4', fun i hi => by have := hm' i hi; omega, HT'.out⟩
          case measure => simp [intOf]; omega
        · refine ordP_step _ (by simp only [List.getElem?_toArray, List.getElem?_cons_succ, List.getElem?_cons_zero]; rfl) ?_ ordP_none
          go_wp2_with (fail)
          refine ord_more (by simp [Ord.first]) HT'.out ?_
          refine ordP_step _ (by simp only [List.getElem?_toArray, List.getElem?_cons_succ, List.getElem?_cons_zero]; rfl) ?_ ordP_none
          go_wp2_with (fail)
          refine ord_more (by simp [Ord.first]) HT'.out ?_
          refine ordP_step _ (by simp only [List.getElem?_toArray, List.getElem?_cons_succ, List.getElem?_cons_zero]; rfl) ?_ ordP_none
          go_wp2_with (fail)
          refine ord_last HT'.out ?_
          show Exit.then _ _ Exit.normal _ _
          go_upto_region 8 with (fail)
          go_wp2_with (fail)
          go_roundw
          case rel => exact ⟨k + 1, ps', by omega, by go_num, rfl, HP'.out, h4', fun i hi => by have := hm' i hi; omega, HT'.out⟩
          case measure => simp [intOf]; omega
      · refine ordP_step _ (by simp only [List.getElem?_toArray, List.getElem?_cons_succ, List.getElem?_cons_zero]; rfl) ?_ ordP_none
        go_wp2_with (fail)
        refine ord_more (by simp [Ord.first]) HT'.out ?_
        refine ordP_step _ (by simp only [List.getElem?_toArray, List.getElem?_cons_succ, List.getElem?_cons_zero]; rfl) ?_ ordP_none
        go_wp2_with (fail)
        refine ord_more (by simp [Ord.first]) HT'.out ?_
        refine ordP_step _ (by simp only [List.getElem?_toArray, List.getElem?_cons_succ, List.getElem?_cons_zero]; rfl) ?_ ordP_none
        go_wp2_with (fail)
        refine ord_more (by simp [Ord.first]) HT'.out ?_
        refine ordP_step _ (by simp only [List.getElem?_toArray, List.getElem?_cons_succ, List.getElem?_cons_zero]; rfl) ?_ ordP_none
        go_wp2_with (fail)
        refine ord_last HT'.out ?_
        show Exit.then _ _ Exit.normal _ _
        go_upto_region 8 with (fail)
        go_wp2_with (fail)
        go_roundw
        case rel => exact ⟨k + 1, ps', by omega, by go_num, rfl, HP'.out, h4', fun i hi => by have := hm' i hi; omega, HT'.out⟩
        case measure => simp [intOf]; omega
    · have ki : ¬ (k : Int) < (n : Int) := by omega
      have hkb : k * 1048576 ≤ 1099511627776 := by omega
      have HKB : Hid (k * 1048576 ≤ 1099511627776) := hkb
      rw [el]
      have HEL2 : Hid (∀ j (hj : j < q), ∃ (D ca : Nat) (Aa : Option Addr) (hv : Value) (m : List (BitVec 8)), wo.rangeAt g (j * 3) [.pointer (some ⟨D, 0, none⟩), .slice Aa m.length ca, hv] ∧ DigOf256 wo D m ∧ RdB wo (.slice Aa m.length ca) m ∧ m.length ≤ 1099511627776) := fun j hj => by
        have hj' : j < ps.length := by rw [HQ.out]; exact hj
        have hP' := HPP.out
        rw [el] at hP'
        have h2 := hP'.ok j hj'
        obtain ⟨Aa, ca, ea⟩ := h2.all.isSlice
        have h3 := hP'.elem j hj'
        have h4 := h2.all.rd
        unfold DPair.cells at h3
        rw [ea] at h3 h4
        exact ⟨_, ca, Aa, _, _, h3, h2.dig, h4, by have := HM.out j hj'; have := HKB.out; omega⟩
      clear hP hU hm h el hkb
      go_upto_region 12 with (fail)
      go_wp2_with (fail)
      go_loopw [7] (fun jv w2 => ∃ j : Nat, j ≤ q ∧ jv = .int .i64 j ∧ Upd [] wo w2) (fun jv _ => q - (intOf jv).toNat)
      case atStart => exact ⟨0, by omega, rfl, Upd.refl _ _⟩
      case round =>
        obtain ⟨j, hj, rfl, hU2⟩ := hrel
        obtain ⟨wp, rfl⟩ : ∃ wp : World, wp = wr := ⟨_, rfl⟩
        by_cases hlt : j < q
        · have ji : (j : Int) < (q : Int) := by omega
          obtain ⟨E, ca, Aa, hv, m, h1, h2, h3, h4⟩ := HEL2.out j hlt
          have hr : wp.rangeAt g (j * 3) [.pointer (some ⟨E, 0, none⟩), .slice Aa m.length ca, hv] := fun i u hi => hU2.cell (h1 i u hi) (by simp)
          have hs3 : (Tryd.prog.info? 27).map (·.size) = some ([.pointer (some ⟨E, 0, none⟩), .slice Aa m.length ca, hv] : List Value).length := size_pair
          have HAK : Hid (Calls Tryd.prog 8 #[.agg #[.pointer (some ⟨E, 0, none⟩), .slice Aa m.length ca, hv]] wp fun e w' => e = .returned (.bool true) ∧ Upd [] wp w') := asked02 wp E ca Aa hv m (h2.upd hU2 (by simp)) (h3.upd0 hU2) (by omega) (HG.out.upd (HU.out.trans hU2) (by simp))
          have HU2 := Lib.hid hU2
          clear h1 h2 h3 h4 hU2
          go_wp2_with (with_reducible refine arm_load_mid (by with_unfolding_all exact rfl) hr Tryd.underlying27 (by with_unfolding_all exact rfl) hs3 ?_)
          with_reducible refine HAK.out.mono ?_
          rintro e w3 ⟨rfl, hU3⟩
          have hU4 := HU2.out.trans hU3
          go_wp2_with (fail)
          go_roundw
          case rel => exact ⟨j + 1, by omega, by go_num, hU4⟩
          case measure => simp [intOf]; omega
        · have ji : ¬ (j : Int) < (q : Int) := by omega
          have hU4 := HU.out.trans hU2
          clear hU2
          go_wp2_with (fail)
          go_ret
          exact ⟨rfl, hU4⟩
end Go.Proofs.YtghdininkolanaaDoor
