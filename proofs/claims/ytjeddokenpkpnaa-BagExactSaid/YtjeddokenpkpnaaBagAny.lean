/-
  The law BagAnyOrder: messages taken in any order.
-/
import Derived.Test.YtjeddokenpkpnaaBagU
namespace Go.Proofs.Ytjeddokenpkpnaa
open Go Go.RowKit Go.Proofs Go.Maps
/-- what is there: what was laid in and was not taken -/
def Left (es es' : List Ent) (tk : List Bool) : Prop := tk.length = es.length ∧ (∀ (i : Nat) (h : i < es.length) (h' : i < tk.length), findE es' ((i : Int) + 1) = if tk[i] then none else some es[i]) ∧ (∀ x : Int, (x < 1 ∨ (es.length : Int) < x) → findE es' x = none)
theorem Left.start {es : List Ent} (h : Count es) : Left es es (List.replicate es.length false) := by
  refine ⟨by simp, fun i hi hi' => ?_, h.out⟩
  rw [h.find i hi]; simp
theorem Left.take {es es' : List Ent} {tk : List Bool} (h : Left es es' tk) (i : Nat) (hi : i < es.length) : Left es (dropE es' ((i : Int) + 1)) (tk.set i true) := by
  refine ⟨by rw [List.length_set]; exact h.1, fun j hj hj' => ?_, fun x hx => ?_⟩
  · rw [findE_drop]
    by_cases he : j = i
    · subst he; simp
    · rw [if_neg (by omega), h.2.1 j hj (by simpa using hj')]
      simp [Ne.symm he]
  · rw [findE_drop, h.2.2 x hx]; simp
theorem Left.none {es es' : List Ent} {tk : List Bool} (h : Left es es' tk) (ha : ∀ (i : Nat) (h : i < tk.length), tk[i] = true) : es' = [] := by
  cases es' with
  | nil => rfl
  | cons y r =>
    exfalso
    have hf : findE (y :: r) y.id = some y := by simp [findE]
    by_cases hx : y.id < 1 ∨ (es.length : Int) < y.id
    · rw [h.2.2 _ hx] at hf; cases hf
    · obtain ⟨i, hi⟩ : ∃ i : Nat, y.id = (i : Int) + 1 := ⟨(y.id - 1).toNat, by omega⟩
      have hl : i < es.length := by omega
      rw [hi, h.2.1 i hl (by rw [h.1]; exact hl), ha i (by rw [h.1]; exact hl)] at hf
      simp at hf
set_option maxRecDepth 100000 in
set_option maxHeartbeats 25600000 in
theorem law_any (w : World) (vb vo : Value) (ps : List (Value × List (BitVec 8))) (os : List Int) (hb : RdBB w vb ps) (ho : RdI w vo os) (hwf : ∀ x ∈ os, wfI x) (hpl : ps.length ≤ maxLen) (hol : os.length ≤ maxLen) (hbl : ∀ p ∈ ps, p.2.length ≤ maxLen) :
    Calls Try.prog 3 #[vb, vo] w fun e w' => e = .returned (.bool true) ∧ Upd [] w w' := by
  obtain ⟨A, c, eA, _⟩ := hb.row.isSlice
  obtain ⟨B, d, eB, _⟩ := RdA.isSlice ho
  rw [List.length_map] at eA eB
  have HPB := Lib.hid hb
  have HRO := Lib.hid ho
  have HWF := Lib.hid hwf
  have HBL := Lib.hid hbl
  subst eA eB
  obtain ⟨NB, hNB⟩ : ∃ n, ps.length = n := ⟨_, rfl⟩
  obtain ⟨NO, hNO⟩ : ∃ n, os.length = n := ⟨_, rfl⟩
  rw [hNB] at hpl ⊢
  rw [hNO] at hol ⊢
  have HNBE := Lib.hid hNB
  have HNOE := Lib.hid hNO
  clear hNB hNO
  have hpi : (NB : Int) ≤ 9223372036854775807 := by simp only [maxLen] at hpl; omega
  have hoi : (NO : Int) ≤ 9223372036854775807 := by simp only [maxLen] at hol; omega
  clear hb ho hwf hbl hpl hol
  by_cases h1 : 200 < NB
  · have h1i : (200 : Int) < (NB : Int) := by omega
    clear h1
    go_enter Try.func3, Try.ntmps3
    go_wp2_with (fail)
    refine (holds_ _).mono ?_
    rintro e w2 ⟨rfl, hU2⟩
    have HU2 := Lib.hid hU2
    clear hU2
    go_wp2_with (fail)
    go_ret
    exact ⟨rfl, HU2.out⟩
  · by_cases h2 : 200 < NO
    · have h1i : ¬ (200 : Int) < (NB : Int) := by omega
      have h2i : (200 : Int) < (NO : Int) := by omega
      clear h1 h2
      go_enter Try.func3, Try.ntmps3
      go_wp2_with (fail)
      refine (holds_ _).mono ?_
      rintro e w2 ⟨rfl, hU2⟩
      have HU2 := Lib.hid hU2
      clear hU2
      go_wp2_with (fail)
      go_ret
      exact ⟨rfl, HU2.out⟩
    · have h1i : (NB : Int) ≤ 200 := by omega
      have h2i : (NO : Int) ≤ 200 := by omega
      have e1 : decide ((200 : Int) < (NB : Int)) = false := by simp; omega
      have e2 : decide ((200 : Int) < (NO : Int)) = false := by simp; omega
      clear h1 h2 hpi hoi
      go_enter Try.func3, Try.ntmps3
      go_wp2_with (fail)
      refine (holds_ _).mono ?_
      rintro e w1 ⟨rfl, hU1⟩
      have HU1 := Lib.hid hU1
      clear hU1
      go_wp2_with (fail)
      refine (new_ _).mono ?_
      rintro e w2 ⟨bb, bm, D0, rfl, hB2, hU2⟩
      have HB2 := Lib.hid hB2
      have HU2 := Lib.hid (HU1.out.trans hU2)
      have HL2 := Lib.hid HU1.out.size
      clear hB2 hU2
      go_wp2_with (fail)
      go_loopw [6, 7] (fun nv iv wr => ∃ (i : Nat) (es : List Ent) (D : DataW Value), i ≤ NB ∧ iv = .int .i64 i ∧ nv = .int .i64 es.length ∧ es.length ≤ i ∧ Count es ∧ BagAt wr w1.heap.size bb bm es.length es D ∧ Upd [] w wr) (fun _ iv _ => NB - (intOf iv).toNat)
      case atStart => exact ⟨0, [], D0, Nat.zero_le _, rfl, rfl, Nat.le_refl _, fun i h => by simp at h, HB2.out, HU2.out⟩
      case round =>
        obtain ⟨i, es, D, hi, rfl, rfl, hle, hC, hB, hU⟩ := hrel
        have HC := Lib.hid hC
        have HB := Lib.hid hB
        have HU := Lib.hid hU
        have HLE : Hid (es.length ≤ i) := hle
        have HNB : Hid (NB ≤ 200) := by show NB ≤ 200; omega
        clear hC hB hU
        by_cases hlt : i < NB
        · have hli : (i : Int) < (NB : Int) := by omega
          have hni : (es.length : Int) ≤ 200 := by omega
          have hii : (i : Int) ≤ 200 := by omega
          obtain ⟨g, p, c', e, _⟩ := RdA.at HPB.out.row (by rw [List.length_map, HNBE.out]; omega)
          injection e with e e1 e2
          clear e1 e2
          subst e
          have hps : i < ps.length := by rw [HNBE.out]; exact hlt
          obtain ⟨q, hq⟩ : ∃ q, ps[i] = q := ⟨_, rfl⟩
          have hqm : q ∈ ps := by rw [← hq]; exact List.getElem_mem hps
          have hEx := RdA.elem HPB.out.row i (by rw [List.length_map]; exact hps)
          simp only [List.getElem_map, hq, Nat.mul_one] at hEx
          have hcell : wr.cell? ⟨g, p + i, none⟩ = some q.1 := by
            have := rangeAt_upd hEx HU.out (by simp) 0 q.1 rfl
            simpa using this
          obtain ⟨Q, qc, eq, _⟩ := (HPB.out.bodies q hqm).isSlice
          have HQ : Hid (RdB wr q.1 q.2) := (HPB.out.bodies q hqm).upd0 HU.out
          rw [eq] at hcell HQ
          have HQL := Lib.hid (HBL.out q hqm)
          clear hq hqm hEx eq hps
          by_cases hlong : 1024 < q.2.length
          · have hlo : (1024 : Int) < (q.2.length : Int) := by omega
            clear hlong
            go_wp2_with (fail)
            go_roundw
            case rel => exact ⟨i + 1, es, D, by omega, by go_num, rfl, by have := HLE.out; omega, HC.out, HB.out, HU.out⟩
            case measure => simp [intOf]; omega
          · have hlo : (q.2.length : Int) ≤ 1024 := by omega
            have HQ4 : Hid (q.2.length ≤ 1024) := by show q.2.length ≤ 1024; omega
            clear hlong
            have HALL : Hid (Upd [] wr (wr.alloc (.cells #[] 5))) := (Upd.refl _ _).alloc _
            have hcell2 : (wr.alloc (.cells #[] 5)).cell? ⟨g, p + i, none⟩ = some (.slice Q q.2.length qc) := HALL.out.cell hcell (by simp)
            go_wp2_with (refine append_rd rfl _ _ rfl wr.heap.size _ [] (by with_unfolding_all exact rfl) (own_empty _) _ q.2 (by with_unfolding_all exact rfl) (HQ.out.upd0 HALL.out) (by have := HQ4.out; simp; omega) (by simp) ?_)
            intro v' w3 hO3 _ hU3 _
            have HU3 : Hid (Upd [] wr w3) := HALL.out.trans' hU3 (fun i hm hl => by simp [Value.ownBlock] at hm; omega)
            have HR3 : Hid (RdB w3 v' q.2) := hO3.rd
            obtain ⟨Q2, qc2, e2, _⟩ := HR3.out.isSlice
            subst e2
            clear hO3 hU3 hcell hcell2
            go_wp2_with (with_reducible refine arm_build3m (by with_unfolding_all exact rfl) (by with_unfolding_all exact rfl) (by with_unfolding_all exact rfl) ?_)
            with_reducible refine (put_ _ _ bb bm es.length es D (HB.out.upd0 HU3.out) 0 _ _ _ q.2 HR3.out HQ4.out (by have := HLE.out; have := HNB.out; omega) (by have := HLE.out; have := HNB.out; omega)).mono ?_
            rintro e w4 ⟨v4, D4, rfl, hB4, hn4, hU4⟩
            have HB4 := Lib.hid hB4
            have HU4 : Hid (Upd [] w w4) := (HU.out.trans HU3.out).trans' hU4 (fun k hm hl => by simp at hm; have := HB2.out.low; have := HL2.out; omega)
            clear hB4 hn4 hU4
            go_wp2_with (fail)
            go_roundw
            case rel =>
              refine ⟨i + 1, _, D4, by omega, by go_num, ?_, ?_, HC.out.push _ rfl, by rw [List.length_append]; exact HB4.out, HU4.out⟩
              · rw [List.length_append]; go_num
              · rw [List.length_append]; simp; exact HLE.out
            case measure => simp [intOf]; omega
        · have hli : ¬ (i : Int) < (NB : Int) := by omega
          have hni : (es.length : Int) ≤ 200 := by omega
          obtain ⟨n, hn⟩ : ∃ n, es.length = n := ⟨_, rfl⟩
          have HN : Hid (es.length = n ∧ n ≤ 200) := ⟨hn, by omega⟩
          rw [hn] at hle hni HB HLE ⊢
          clear hn hle
          go_wp2_with (fail)
          with_reducible refine (list_ _ _ bb bm n es D HB.out (by have := HN.out.2; omega)).mono ?_
          rintro e w5 ⟨lv, ts, rfl, hts, hM5, hU5⟩
          obtain ⟨X, xc, ex⟩ := OwnA.isSlice hM5.row
          have HTL : Hid (ts.length = n) := by
            have := congrArg List.length hts
            simp only [List.length_map] at this
            show ts.length = n
            rw [this]; exact HN.out.1
          rw [List.length_map, HTL.out] at ex
          subst ex
          have HTS := Lib.hid hts
          have HM5 := Lib.hid hM5
          have HB5 := Lib.hid (HB.out.upd0 hU5)
          have HU5 := Lib.hid (HU.out.trans hU5)
          obtain ⟨LB, hLB⟩ : ∃ q, wr.heap.size = q := ⟨_, rfl⟩
          rw [hLB] at HM5
          have HLW : Hid (bb < LB ∧ bm < LB ∧ LB ≤ w5.heap.size ∧ w.heap.size ≤ LB) := ⟨by rw [← hLB]; exact HB.out.lt.1, by rw [← hLB]; exact HB.out.lt.2, by rw [← hLB]; exact hU5.size, by rw [← hLB]; exact HU.out.size⟩
          clear hts hM5 hU5 hli hLB
          go_wp2_with (with_reducible refine makeL (n := n) (by with_unfolding_all exact rfl) (by with_unfolding_all exact rfl) (by have := HN.out.2; omega) ?_)
          intro gT w6 hgT hT6 hU6
          have HT6 := Lib.hid hT6
          have HM6 := Lib.hid (HM5.out.upd0 hU6)
          have HB6 := Lib.hid (HB5.out.upd0 hU6)
          have HU6 := Lib.hid (HU5.out.trans hU6)
          have HGT : Hid (w5.heap.size = gT) := hgT
          clear hgT hT6 hU6
          go_wp2_with (fail)
          go_loopw [12] (fun iv wr => ∃ (i : Nat) (es' : List Ent) (D' : DataW Value) (tk : List Bool), i ≤ NO + n ∧ iv = .int .i64 i ∧ Left es es' tk ∧ (∀ (j : Nat) (h : j < tk.length), NO + j < i → tk[j] = true) ∧ OwnL wr gT (.slice (some ⟨gT, 0, none⟩) n n) tk ∧ OwnM wr LB (.slice X n xc) ts ∧ BagAt wr w1.heap.size bb bm n es' D' ∧ Upd [] w wr) (fun iv _ => NO + n - (intOf iv).toNat)
          case atStart => exact ⟨0, es, D, List.replicate n false, Nat.zero_le _, rfl, by have := Left.start HC.out; rw [HN.out.1] at this; exact this, fun j h hj => by omega, HT6.out, HM6.out, HB6.out, HU6.out⟩
          case round =>
            obtain ⟨i, es', D', tk, hi, rfl, hLf, hTk, hT, hM, hB, hU⟩ := hrel
            have HLF := Lib.hid hLf
            have HTK := Lib.hid hTk
            have HTr := Lib.hid hT
            have HMr := Lib.hid hM
            have HBr := Lib.hid hB
            have HUr := Lib.hid hU
            clear hLf hTk hT hM hB hU
            have hii : (i : Int) ≤ 400 := by have := HN.out.2; omega
            by_cases hlt : i < NO + n
            · have hli : (i : Int) < (NO : Int) + (n : Int) := by omega
              by_cases hlo : i < NO
              · have hloi : (i : Int) < (NO : Int) := by omega
                obtain ⟨g, p, c', e, _⟩ := RdA.at HRO.out (by rw [List.length_map, HNOE.out]; omega)
                injection e with e e1' e2'
                clear e1' e2'
                subst e
                have hos : i < os.length := by rw [HNOE.out]; exact hlo
                obtain ⟨x, hx⟩ : ∃ x, os[i] = x := ⟨_, rfl⟩
                have hwfx : wfI x := by rw [← hx]; exact HWF.out _ (List.getElem_mem hos)
                have hcell : wr.cell? ⟨g, p + i, none⟩ = some (.int .i64 x) := by
                  have h1 := RdA.elem HRO.out i (by rw [List.length_map]; exact hos)
                  simp only [List.getElem_map, hx, Nat.mul_one] at h1
                  have := rangeAt_upd h1 HUr.out (by simp) 0 (.int .i64 x) rfl
                  simpa using this
                clear hx hos
                go_wp2_with (fail)
                clear hcell
                by_cases hin : 1 ≤ x ∧ x ≤ (n : Int)
                · obtain ⟨j, hj⟩ : ∃ j : Nat, x = (j : Int) + 1 := ⟨(x - 1).toNat, by omega⟩
                  subst hj
                  have hjn : j < n := by omega
                  clear hin
                  have hjt : j < tk.length := by rw [HLF.out.1, HN.out.1]; exact hjn
                  have hje : j < es.length := by rw [HN.out.1]; exact hjn
                  have hjb : (j : Int) < (n : Int) := by omega
                  have hj200 : (j : Int) ≤ 200 := by have := HN.out.2; omega
                  have hwfj : wfI ((j : Int) + 1) := wf_small (by omega) (by omega)
                  have f1 : decide ((j : Int) + 1 < 1) = false := by simp; omega
                  have f2 : decide ((n : Int) < (j : Int) + 1) = false := by simp; omega
                  have hfj := HLF.out.2.1 j hje hjt
                  cases htk : tk[j] with
                  | true =>
                    rw [htk, if_pos rfl] at hfj
                    with_reducible refine (take_none _ _ bb bm n es' D' HBr.out _ hwfj hfj).mono ?_
                    rintro e w7 ⟨rfl, hU7⟩
                    have HJ : Hid (tk[j] = true) := htk
                    clear htk hfj hwfj
                    have HB7 := Lib.hid (HBr.out.upd0 hU7)
                    have HM7 := Lib.hid (HMr.out.upd0 hU7)
                    have HT7 : Hid (OwnL w7 gT (.slice (some ⟨gT, 0, none⟩) n n) tk) := OwnA.upd0 HTr.out hU7
                    have HU7 := Lib.hid (HUr.out.trans hU7)
                    clear hU7
                    go_wp2_with (with_reducible refine arm_alloc (zero_msg _) ?_)
                    intro b8 w8 hb8 k8 hU8 hz8
                    change w8.heap[b8]? = some (.cells (msgC 0 0 0 (.slice none 0 0)) 32 (0, 0)) at k8
                    have HLB8 : Hid (w7.heap.size = b8) := hb8
                    have HU8 := Lib.hid hU8
                    clear hb8 hU8 hz8
                    have hz9 := size_msg 0 0 0 (.slice none 0 0)
                    go_wp2_with (with_reducible refine arm_store (by with_unfolding_all exact rfl) (by with_unfolding_all exact rfl) k8 hz9 (by with_unfolding_all exact rfl) (one_msg _ _ _ rfl) ?_)
                    intro w9 k9 hX9 hz9'
                    have hU9 : Upd [] w7 w9 := HU8.out.trans' hX9 (fun k hm hl => by have := List.mem_singleton.1 hm; have := HLB8.out; omega)
                    have HB9 := Lib.hid (HB7.out.upd0 hU9)
                    have HM9 := Lib.hid (HM7.out.upd0 hU9)
                    have HT9 : Hid (OwnL w9 gT (.slice (some ⟨gT, 0, none⟩) n n) tk) := OwnA.upd0 HT7.out hU9
                    have HU9 := Lib.hid (HU7.out.trans hU9)
                    have ct : w9.cell? ⟨gT, j, none⟩ = some (.bool true) := by rw [OwnL.cell HT9.out j hjt, HJ.out]
                    clear k8 hX9 hz9' hU9 k9 hz9
                    go_wp2_with (fail)
                    go_roundw
                    case rel => exact ⟨i + 1, es', D', tk, by omega, by go_num, HLF.out, fun q hq hql => HTK.out q hq (by omega), HT9.out, HM9.out, HB9.out, HU9.out⟩
                    case measure => simp [intOf]; omega
                  | false =>
                    rw [htk, if_neg (by simp)] at hfj
                    obtain ⟨y, hy⟩ : ∃ y, es[j] = y := ⟨_, rfl⟩
                    rw [hy] at hfj
                    have hjts : j < ts.length := by rw [HTL.out]; exact hjn
                    obtain ⟨z, hz⟩ : ∃ z, ts[j] = z := ⟨_, rfl⟩
                    have hzy : z.core = y.core := by
                      have := congrArg (fun l => l[j]?) HTS.out
                      simpa [hjts, hje, hz, hy] using this
                    have HZY := Lib.hid hzy
                    have hym : y ∈ es' := (findE_some hfj).1
                    have HYB : Hid (y.b.length ≤ 1024) := HBr.out.short y hym
                    have hvo : y.v.oneCell' = true := by obtain ⟨a, q, e, _⟩ := (HBr.out.rows y hym).rd.isSlice; rw [e]; rfl
                    have hsy := size_msg y.id y.fr y.to y.v
                    have hoy := one_msg y.id y.fr y.to hvo
                    with_reducible refine (take_ _ _ bb bm n es' D' HBr.out _ hwfj y hfj).mono ?_
                    rintro e w7 ⟨D7, rfl, hB7, ho7, hU7⟩
                    unfold Ent.cells
                    have HB7 := Lib.hid hB7
                    have HO7 := Lib.hid ho7
                    have hfoot : ∀ k, footM (.slice X n xc) ts k → k ∉ [bb, bm] := fun k hk hm => by
                      have h1 := (HMr.out.lt k hk).1
                      have h2 := HLW.out
                      simp at hm
                      omega
                    have HM7 := Lib.hid (HMr.out.upd hU7 hfoot)
                    have HT7 : Hid (OwnL w7 gT (.slice (some ⟨gT, 0, none⟩) n n) tk) := OwnA.upd HTr.out hU7 (fun k hk hm => by
                      simp only [Value.ownBlock, Option.some.injEq] at hk
                      have h1 := HGT.out
                      have h2 := HLW.out
                      simp at hm
                      omega)
                    have HU7 : Hid (Upd [] w w7) := HUr.out.trans' hU7 (fun k hm hl => by simp at hm; have := HB2.out.low; have := HL2.out; omega)
                    clear hU7 hB7 ho7 hfoot hy hzy hvo hym
                    go_wp2_with (with_reducible refine arm_alloc (zero_msg _) ?_)
                    intro b8 w8 hb8 k8 hU8 hz8
                    change w8.heap[b8]? = some (.cells (msgC 0 0 0 (.slice none 0 0)) 32 (0, 0)) at k8
                    have HLB8 : Hid (w7.heap.size = b8) := hb8
                    have HU8 := Lib.hid hU8
                    clear hb8 hU8 hz8
                    go_wp2_with (with_reducible refine arm_store (by with_unfolding_all exact rfl) (by with_unfolding_all exact rfl) k8 hsy (by with_unfolding_all exact rfl) hoy ?_)
                    intro w9 k9 hX9 hz9
                    have hU9 : Upd [] w7 w9 := HU8.out.trans' hX9 (fun k hm hl => by have := List.mem_singleton.1 hm; have := HLB8.out; omega)
                    have HB9 := Lib.hid (HB7.out.upd0 hU9)
                    have HM9 := Lib.hid (HM7.out.upd0 hU9)
                    have HO9 := Lib.hid (HO7.out.upd0 hU9)
                    have hT9 : OwnL w9 gT (.slice (some ⟨gT, 0, none⟩) n n) tk := OwnA.upd0 HT7.out hU9
                    have HU9 := Lib.hid (HU7.out.trans hU9)
                    have ct : w9.cell? ⟨gT, j, none⟩ = some (.bool false) := by rw [OwnL.cell hT9 j hjt, htk]
                    obtain ⟨hfr, hT9s⟩ := OwnL.set hT9 j hjt true
                    have HT9S := Lib.hid hT9s
                    have HU9S : Hid (Upd [] w (w9.setCell ⟨gT, j, none⟩ (.bool true))) := HU9.out.setCell _ _ (fun hl => by have h1 := HGT.out; have h2 := HLW.out; simp at hl; omega)
                    have HS1 : Hid (Upd [gT] w9 (w9.setCell ⟨gT, j, none⟩ (.bool true))) := (Upd.refl _ _).setCell _ _ (fun _ => by simp)
                    have hgT9 : gT ≠ b8 := by have h1 := ((OwnA.lt HT7.out) gT rfl).2; have := HLB8.out; omega
                    have HB9S : Hid (BagAt (w9.setCell ⟨gT, j, none⟩ (.bool true)) w1.heap.size bb bm n (dropE es' ((j : Int) + 1)) D7) := HB9.out.upd HS1.out (fun hm => by have := List.mem_singleton.1 hm; have := HGT.out; have := HLW.out; omega) (fun hm => by have := List.mem_singleton.1 hm; have := HGT.out; have := HLW.out; omega) (fun e he k hk hm => OwnA.ne_row hT9 (HB9.out.rows e he) (by decide) k hk (by rw [List.mem_singleton.1 hm]; rfl))
                    have HM9S : Hid (OwnM (w9.setCell ⟨gT, j, none⟩ (.bool true)) LB (.slice X n xc) ts) := HM9.out.upd HS1.out (fun k hk hm => by
                      have e := List.mem_singleton.1 hm
                      subst e
                      rcases hk with hk | ⟨t, ht, hk⟩
                      · exact OwnA.ne_row hT9 HM9.out.row.2 (by decide) k hk rfl
                      · exact OwnA.ne_row hT9 (HM9.out.bodies t ht) (by decide) k hk rfl)
                    have HO9S : Hid (OwnB (w9.setCell ⟨gT, j, none⟩ (.bool true)) w1.heap.size y.v y.b) := HO9.out.upd HS1.out (fun k hk hm => OwnA.ne_row hT9 HO9.out (by decide) k hk (by rw [List.mem_singleton.1 hm]; rfl))
                    have hk9 : (w9.setCell ⟨gT, j, none⟩ (.bool true)).heap[b8]? = some (.cells (msgC y.id y.fr y.to y.v) 32 (0, 0)) := HS1.out.heap k9 (by simp; exact fun e => hgT9 e.symm)
                    have HK9 := Lib.hid hk9
                    clear k8 hX9 hz9 hU9 k9 hT9 hT9s htk hfj hwfj hk9 hgT9 HS1
                    have HLF9 : Hid (Left es (dropE es' ((j : Int) + 1)) (tk.set j true)) := HLF.out.take j hje
                    have HRZ : Hid (RdB (w9.setCell ⟨gT, j, none⟩ (.bool true)) z.v z.b ∧ z.b.length ≤ 1000000) := ⟨(HM9S.out.bodies z (by rw [← hz]; exact List.getElem_mem hjts)).rd, by have e : z.b = y.b := congrArg (fun p => p.2.2.2) HZY.out; rw [e]; have := HYB.out; omega⟩
                    have HEL : Hid (∀ gl, X = some ⟨gl, 0, none⟩ → (w9.setCell ⟨gT, j, none⟩ (.bool true)).rangeAt gl (0 + j * 4) z.cells.toList) := fun gl hgl => by
                      have h1 := HM9S.out.row
                      rw [hgl] at h1
                      have h2 := OwnA.elem h1 j (by rw [List.length_map]; exact hjts)
                      simp only [List.getElem_map, hz] at h2
                      rw [Nat.zero_add]; exact h2
                    obtain ⟨gl, _, _, hXe, _⟩ := OwnA.at HM9S.out.row (by rw [List.length_map, HTL.out]; omega)
                    injection hXe with hXe hX1 hX2
                    clear hX1 hX2
                    have hel := HEL.out gl hXe
                    subst hXe
                    clear HEL hz hjts hjt hje
                    obtain ⟨wS, hwS⟩ : ∃ W, w9.setCell ⟨gT, j, none⟩ (.bool true) = W := ⟨_, rfl⟩
                    rw [hwS] at HT9S HU9S HB9S HM9S HO9S HK9 HRZ hel
                    have HWS := Lib.hid hwS
                    have HQ8 : Hid (∀ W, Upd [] wS W → ∃ t fr, W.heap[b8]? = some (.cells (msgC y.id y.fr y.to y.v) t fr)) := fun W hW => ⟨_, _, hW.heap HK9.out (by simp)⟩
                    have HQL : Hid (∀ W, Upd [] wS W → W.rangeAt gl (0 + j * 4) z.cells.toList) := fun W hW => rangeAt_upd hel hW (by simp)
                    have HSM : Hid (∀ W, Upd [] wS W → Calls Try.prog 12 #[.agg (msgC y.id y.fr y.to y.v), .agg z.cells.toList.toArray] W fun e w' => e = .returned (.bool true) ∧ Upd [] W w') := fun W hW => by
                      have := sameM_ W y z (HO9S.out.rd.upd0 hW) (HRZ.out.1.upd0 hW) (by have := HYB.out; omega) HRZ.out.2
                      rw [(eqCore_iff y z).2 HZY.out.symm] at this
                      exact this
                    have hsz := size_msgL z
                    obtain ⟨kz, hkz⟩ : ∃ q, 0 + j * 4 = q := ⟨_, rfl⟩
                    rw [hkz] at HQL
                    have HKZ := Lib.hid hkz
                    clear hel hkz
                    go_upto_region 28 with (fail)
                    go_simp
                    try rw [hwS]
                    clear hwS ct hfr
                    refine wp_region_quiet_all (Upd [] wS) (by kernel_rfl) (by kernel_rfl) (Upd.refl _ _).drew ?_
                    repeat (first
                      | go_big_quiet_skip
                      | (refine wpQuiet_valK rfl (quiet_load_row 32 _ rfl b8 rfl _ HQ8.out Try.underlying32 rfl hsy) (fun K hK => ?_); go_simp; refine hK _ ?_; clear hK K)
                      | (refine wpQuiet_valK rfl (quiet_load_mid 32 _ rfl gl kz rfl _ HQL.out Try.underlying32 rfl hsz) (fun K hK => ?_); go_simp; refine hK _ ?_; clear hK K)
                      | (refine wpQuiet_valK rfl (quiet_of_yields (yields_index Try.underlying33 elem_msgs size_msg4 (g := gl) rfl rfl rfl hjn HKZ.out)) (fun K hK => ?_); go_simp; refine hK _ ?_; clear hK K)
                      | go_big_quiet_step ((intro hw2; first
                          | rfl
                          | ((with_reducible refine (HSM.out _ hw2).mono ?_); exact fun e w' h => ⟨h.1, hw2.trans h.2⟩))))
                    refine wpQuiet_nil ?_
                    intro wT hUT
                    have HBT := Lib.hid (HB9S.out.upd0 hUT)
                    have HMT := Lib.hid (HM9S.out.upd0 hUT)
                    have HTT : Hid (OwnL wT gT (.slice (some ⟨gT, 0, none⟩) n n) (tk.set j true)) := OwnA.upd0 HT9S.out hUT
                    have HUT := Lib.hid (HU9S.out.trans hUT)
                    clear hUT HQ8 HQL HSM hsz hsy hoy
                    go_wp2_with (fail)
                    go_roundw
                    case rel => exact ⟨i + 1, dropE es' ((j : Int) + 1), D7, tk.set j true, by omega, by go_num, HLF9.out, fun q hq hql => by omega, HTT.out, HMT.out, HBT.out, HUT.out⟩
                    case measure => simp [intOf]; omega
                · have hxo : x < 1 ∨ (n : Int) < x := by omega
                  have hfx := HLF.out.2.2 x (by rw [HN.out.1]; exact hxo)
                  with_reducible refine (take_none _ _ bb bm n es' D' HBr.out x hwfx hfx).mono ?_
                  rintro e w7 ⟨rfl, hU7⟩
                  have hxn : x ≤ (n : Int) → x < 1 := by omega
                  have HXO := Lib.hid hxo
                  clear hin hfx hxn
                  clear hwfx
                  rcases hxo with hx1 | hx1
                  · have f1 : decide (x < 1) = true := by simp; exact hx1
                    clear hx1
                    have HB7 := Lib.hid (HBr.out.upd0 hU7)
                    have HM7 := Lib.hid (HMr.out.upd0 hU7)
                    have HT7 : Hid (OwnL w7 gT (.slice (some ⟨gT, 0, none⟩) n n) tk) := OwnA.upd0 HTr.out hU7
                    have HU7 := Lib.hid (HUr.out.trans hU7)
                    clear hU7
                    go_wp2_with (with_reducible refine arm_alloc (zero_msg _) ?_)
                    intro b8 w8 hb8 k8 hU8 hz8
                    change w8.heap[b8]? = some (.cells (msgC 0 0 0 (.slice none 0 0)) 32 (0, 0)) at k8
                    have HLB8 : Hid (w7.heap.size = b8) := hb8
                    have HU8 := Lib.hid hU8
                    clear hb8 hU8 hz8
                    have hz9 := size_msg 0 0 0 (.slice none 0 0)
                    go_wp2_with (with_reducible refine arm_store (by with_unfolding_all exact rfl) (by with_unfolding_all exact rfl) k8 hz9 (by with_unfolding_all exact rfl) (one_msg _ _ _ rfl) ?_)
                    intro w9 k9 hX9 hz9'
                    have hU9 : Upd [] w7 w9 := HU8.out.trans' hX9 (fun k hm hl => by have := List.mem_singleton.1 hm; have := HLB8.out; omega)
                    have HB9 := Lib.hid (HB7.out.upd0 hU9)
                    have HM9 := Lib.hid (HM7.out.upd0 hU9)
                    have HT9 : Hid (OwnL w9 gT (.slice (some ⟨gT, 0, none⟩) n n) tk) := OwnA.upd0 HT7.out hU9
                    have HU9 := Lib.hid (HU7.out.trans hU9)
                    clear k8 hX9 hz9' hU9 k9 hz9
                    go_wp2_with (fail)
                    go_roundw
                    case rel => exact ⟨i + 1, es', D', tk, by omega, by go_num, HLF.out, fun q hq hql => HTK.out q hq (by omega), HT9.out, HM9.out, HB9.out, HU9.out⟩
                    case measure => simp [intOf]; omega
                  · have f2 : decide ((n : Int) < x) = true := by simp; exact hx1
                    have f1 : decide (x < 1) = false := by simp; omega
                    clear hx1
                    have HB7 := Lib.hid (HBr.out.upd0 hU7)
                    have HM7 := Lib.hid (HMr.out.upd0 hU7)
                    have HT7 : Hid (OwnL w7 gT (.slice (some ⟨gT, 0, none⟩) n n) tk) := OwnA.upd0 HTr.out hU7
                    have HU7 := Lib.hid (HUr.out.trans hU7)
                    clear hU7
                    go_wp2_with (with_reducible refine arm_alloc (zero_msg _) ?_)
                    intro b8 w8 hb8 k8 hU8 hz8
                    change w8.heap[b8]? = some (.cells (msgC 0 0 0 (.slice none 0 0)) 32 (0, 0)) at k8
                    have HLB8 : Hid (w7.heap.size = b8) := hb8
                    have HU8 := Lib.hid hU8
                    clear hb8 hU8 hz8
                    have hz9 := size_msg 0 0 0 (.slice none 0 0)
                    go_wp2_with (with_reducible refine arm_store (by with_unfolding_all exact rfl) (by with_unfolding_all exact rfl) k8 hz9 (by with_unfolding_all exact rfl) (one_msg _ _ _ rfl) ?_)
                    intro w9 k9 hX9 hz9'
                    have hU9 : Upd [] w7 w9 := HU8.out.trans' hX9 (fun k hm hl => by have := List.mem_singleton.1 hm; have := HLB8.out; omega)
                    have HB9 := Lib.hid (HB7.out.upd0 hU9)
                    have HM9 := Lib.hid (HM7.out.upd0 hU9)
                    have HT9 : Hid (OwnL w9 gT (.slice (some ⟨gT, 0, none⟩) n n) tk) := OwnA.upd0 HT7.out hU9
                    have HU9 := Lib.hid (HU7.out.trans hU9)
                    clear k8 hX9 hz9' hU9 k9 hz9
                    go_wp2_with (fail)
                    go_roundw
                    case rel => exact ⟨i + 1, es', D', tk, by omega, by go_num, HLF.out, fun q hq hql => HTK.out q hq (by omega), HT9.out, HM9.out, HB9.out, HU9.out⟩
                    case measure => simp [intOf]; omega
              · obtain ⟨j, hj⟩ : ∃ j, i = NO + j := ⟨i - NO, by omega⟩
                have HIJ : Hid (i = NO + j) := hj
                have hloi : ¬ (i : Int) < (NO : Int) := by omega
                have hsub : (i : Int) - (NO : Int) = (j : Int) := by omega
                have hjn0 : (j : Int) ≤ 400 := by omega
                have hjn : j < n := by omega
                clear hj hlo
                go_wp2_with (fail)
                clear hsub
                have hjt : j < tk.length := by rw [HLF.out.1, HN.out.1]; exact hjn
                have hje : j < es.length := by rw [HN.out.1]; exact hjn
                have hjb : (j : Int) < (n : Int) := by omega
                have hj200 : (j : Int) ≤ 200 := by have := HN.out.2; omega
                have hwfj : wfI ((j : Int) + 1) := wf_small (by omega) (by omega)
                have f1 : decide ((j : Int) + 1 < 1) = false := by simp; omega
                have f2 : decide ((n : Int) < (j : Int) + 1) = false := by simp; omega
                have hfj := HLF.out.2.1 j hje hjt
                cases htk : tk[j] with
                | true =>
                  rw [htk, if_pos rfl] at hfj
                  with_reducible refine (take_none _ _ bb bm n es' D' HBr.out _ hwfj hfj).mono ?_
                  rintro e w7 ⟨rfl, hU7⟩
                  have HJ : Hid (tk[j] = true) := htk
                  clear htk hfj hwfj
                  have HB7 := Lib.hid (HBr.out.upd0 hU7)
                  have HM7 := Lib.hid (HMr.out.upd0 hU7)
                  have HT7 : Hid (OwnL w7 gT (.slice (some ⟨gT, 0, none⟩) n n) tk) := OwnA.upd0 HTr.out hU7
                  have HU7 := Lib.hid (HUr.out.trans hU7)
                  clear hU7
                  go_wp2_with (with_reducible refine arm_alloc (zero_msg _) ?_)
                  intro b8 w8 hb8 k8 hU8 hz8
                  change w8.heap[b8]? = some (.cells (msgC 0 0 0 (.slice none 0 0)) 32 (0, 0)) at k8
                  have HLB8 : Hid (w7.heap.size = b8) := hb8
                  have HU8 := Lib.hid hU8
                  clear hb8 hU8 hz8
                  have hz9 := size_msg 0 0 0 (.slice none 0 0)
                  go_wp2_with (with_reducible refine arm_store (by with_unfolding_all exact rfl) (by with_unfolding_all exact rfl) k8 hz9 (by with_unfolding_all exact rfl) (one_msg _ _ _ rfl) ?_)
                  intro w9 k9 hX9 hz9'
                  have hU9 : Upd [] w7 w9 := HU8.out.trans' hX9 (fun k hm hl => by have := List.mem_singleton.1 hm; have := HLB8.out; omega)
                  have HB9 := Lib.hid (HB7.out.upd0 hU9)
                  have HM9 := Lib.hid (HM7.out.upd0 hU9)
                  have HT9 : Hid (OwnL w9 gT (.slice (some ⟨gT, 0, none⟩) n n) tk) := OwnA.upd0 HT7.out hU9
                  have HU9 := Lib.hid (HU7.out.trans hU9)
                  have ct : w9.cell? ⟨gT, j, none⟩ = some (.bool true) := by rw [OwnL.cell HT9.out j hjt, HJ.out]
                  clear k8 hX9 hz9' hU9 k9 hz9
                  go_wp2_with (fail)
                  go_roundw
                  case rel => exact ⟨i + 1, es', D', tk, by omega, by go_num, HLF.out, fun q hq hql => by
                    by_cases hqj : q = j
                    · subst hqj; exact HJ.out
                    · exact HTK.out q hq (by have := HIJ.out; omega), HT9.out, HM9.out, HB9.out, HU9.out⟩
                  case measure => simp [intOf]; omega
                | false =>
                  rw [htk, if_neg (by simp)] at hfj
                  obtain ⟨y, hy⟩ : ∃ y, es[j] = y := ⟨_, rfl⟩
                  rw [hy] at hfj
                  have hjts : j < ts.length := by rw [HTL.out]; exact hjn
                  obtain ⟨z, hz⟩ : ∃ z, ts[j] = z := ⟨_, rfl⟩
                  have hzy : z.core = y.core := by
                    have := congrArg (fun l => l[j]?) HTS.out
                    simpa [hjts, hje, hz, hy] using this
                  have HZY := Lib.hid hzy
                  have hym : y ∈ es' := (findE_some hfj).1
                  have HYB : Hid (y.b.length ≤ 1024) := HBr.out.short y hym
                  have hvo : y.v.oneCell' = true := by obtain ⟨a, q, e, _⟩ := (HBr.out.rows y hym).rd.isSlice; rw [e]; rfl
                  have hsy := size_msg y.id y.fr y.to y.v
                  have hoy := one_msg y.id y.fr y.to hvo
                  with_reducible refine (take_ _ _ bb bm n es' D' HBr.out _ hwfj y hfj).mono ?_
                  rintro e w7 ⟨D7, rfl, hB7, ho7, hU7⟩
                  unfold Ent.cells
                  have HB7 := Lib.hid hB7
                  have HO7 := Lib.hid ho7
                  have hfoot : ∀ k, footM (.slice X n xc) ts k → k ∉ [bb, bm] := fun k hk hm => by
                    have h1 := (HMr.out.lt k hk).1
                    have h2 := HLW.out
                    simp at hm
                    omega
                  have HM7 := Lib.hid (HMr.out.upd hU7 hfoot)
                  have HT7 : Hid (OwnL w7 gT (.slice (some ⟨gT, 0, none⟩) n n) tk) := OwnA.upd HTr.out hU7 (fun k hk hm => by
                    simp only [Value.ownBlock, Option.some.injEq] at hk
                    have h1 := HGT.out
                    have h2 := HLW.out
                    simp at hm
                    omega)
                  have HU7 : Hid (Upd [] w w7) := HUr.out.trans' hU7 (fun k hm hl => by simp at hm; have := HB2.out.low; have := HL2.out; omega)
                  clear hU7 hB7 ho7 hfoot hy hzy hvo hym
                  go_wp2_with (with_reducible refine arm_alloc (zero_msg _) ?_)
                  intro b8 w8 hb8 k8 hU8 hz8
                  change w8.heap[b8]? = some (.cells (msgC 0 0 0 (.slice none 0 0)) 32 (0, 0)) at k8
                  have HLB8 : Hid (w7.heap.size = b8) := hb8
                  have HU8 := Lib.hid hU8
                  clear hb8 hU8 hz8
                  go_wp2_with (with_reducible refine arm_store (by with_unfolding_all exact rfl) (by with_unfolding_all exact rfl) k8 hsy (by with_unfolding_all exact rfl) hoy ?_)
                  intro w9 k9 hX9 hz9
                  have hU9 : Upd [] w7 w9 := HU8.out.trans' hX9 (fun k hm hl => by have := List.mem_singleton.1 hm; have := HLB8.out; omega)
                  have HB9 := Lib.hid (HB7.out.upd0 hU9)
                  have HM9 := Lib.hid (HM7.out.upd0 hU9)
                  have HO9 := Lib.hid (HO7.out.upd0 hU9)
                  have hT9 : OwnL w9 gT (.slice (some ⟨gT, 0, none⟩) n n) tk := OwnA.upd0 HT7.out hU9
                  have HU9 := Lib.hid (HU7.out.trans hU9)
                  have ct : w9.cell? ⟨gT, j, none⟩ = some (.bool false) := by rw [OwnL.cell hT9 j hjt, htk]
                  obtain ⟨hfr, hT9s⟩ := OwnL.set hT9 j hjt true
                  have HT9S := Lib.hid hT9s
                  have HU9S : Hid (Upd [] w (w9.setCell ⟨gT, j, none⟩ (.bool true))) := HU9.out.setCell _ _ (fun hl => by have h1 := HGT.out; have h2 := HLW.out; simp at hl; omega)
                  have HS1 : Hid (Upd [gT] w9 (w9.setCell ⟨gT, j, none⟩ (.bool true))) := (Upd.refl _ _).setCell _ _ (fun _ => by simp)
                  have hgT9 : gT ≠ b8 := by have h1 := ((OwnA.lt HT7.out) gT rfl).2; have := HLB8.out; omega
                  have HB9S : Hid (BagAt (w9.setCell ⟨gT, j, none⟩ (.bool true)) w1.heap.size bb bm n (dropE es' ((j : Int) + 1)) D7) := HB9.out.upd HS1.out (fun hm => by have := List.mem_singleton.1 hm; have := HGT.out; have := HLW.out; omega) (fun hm => by have := List.mem_singleton.1 hm; have := HGT.out; have := HLW.out; omega) (fun e he k hk hm => OwnA.ne_row hT9 (HB9.out.rows e he) (by decide) k hk (by rw [List.mem_singleton.1 hm]; rfl))
                  have HM9S : Hid (OwnM (w9.setCell ⟨gT, j, none⟩ (.bool true)) LB (.slice X n xc) ts) := HM9.out.upd HS1.out (fun k hk hm => by
                    have e := List.mem_singleton.1 hm
                    subst e
                    rcases hk with hk | ⟨t, ht, hk⟩
                    · exact OwnA.ne_row hT9 HM9.out.row.2 (by decide) k hk rfl
                    · exact OwnA.ne_row hT9 (HM9.out.bodies t ht) (by decide) k hk rfl)
                  have HO9S : Hid (OwnB (w9.setCell ⟨gT, j, none⟩ (.bool true)) w1.heap.size y.v y.b) := HO9.out.upd HS1.out (fun k hk hm => OwnA.ne_row hT9 HO9.out (by decide) k hk (by rw [List.mem_singleton.1 hm]; rfl))
                  have hk9 : (w9.setCell ⟨gT, j, none⟩ (.bool true)).heap[b8]? = some (.cells (msgC y.id y.fr y.to y.v) 32 (0, 0)) := HS1.out.heap k9 (by simp; exact fun e => hgT9 e.symm)
                  have HK9 := Lib.hid hk9
                  clear k8 hX9 hz9 hU9 k9 hT9 hT9s htk hfj hwfj hk9 hgT9 HS1
                  have HLF9 : Hid (Left es (dropE es' ((j : Int) + 1)) (tk.set j true)) := HLF.out.take j hje
                  have HRZ : Hid (RdB (w9.setCell ⟨gT, j, none⟩ (.bool true)) z.v z.b ∧ z.b.length ≤ 1000000) := ⟨(HM9S.out.bodies z (by rw [← hz]; exact List.getElem_mem hjts)).rd, by have e : z.b = y.b := congrArg (fun p => p.2.2.2) HZY.out; rw [e]; have := HYB.out; omega⟩
                  have HEL : Hid (∀ gl, X = some ⟨gl, 0, none⟩ → (w9.setCell ⟨gT, j, none⟩ (.bool true)).rangeAt gl (0 + j * 4) z.cells.toList) := fun gl hgl => by
                    have h1 := HM9S.out.row
                    rw [hgl] at h1
                    have h2 := OwnA.elem h1 j (by rw [List.length_map]; exact hjts)
                    simp only [List.getElem_map, hz] at h2
                    rw [Nat.zero_add]; exact h2
                  obtain ⟨gl, _, _, hXe, _⟩ := OwnA.at HM9S.out.row (by rw [List.length_map, HTL.out]; omega)
                  injection hXe with hXe hX1 hX2
                  clear hX1 hX2
                  have hel := HEL.out gl hXe
                  subst hXe
                  clear HEL hz hjts hjt hje
                  obtain ⟨wS, hwS⟩ : ∃ W, w9.setCell ⟨gT, j, none⟩ (.bool true) = W := ⟨_, rfl⟩
                  rw [hwS] at HT9S HU9S HB9S HM9S HO9S HK9 HRZ hel
                  have HWS := Lib.hid hwS
                  have HQ8 : Hid (∀ W, Upd [] wS W → ∃ t fr, W.heap[b8]? = some (.cells (msgC y.id y.fr y.to y.v) t fr)) := fun W hW => ⟨_, _, hW.heap HK9.out (by simp)⟩
                  have HQL : Hid (∀ W, Upd [] wS W → W.rangeAt gl (0 + j * 4) z.cells.toList) := fun W hW => rangeAt_upd hel hW (by simp)
                  have HSM : Hid (∀ W, Upd [] wS W → Calls Try.prog 12 #[.agg (msgC y.id y.fr y.to y.v), .agg z.cells.toList.toArray] W fun e w' => e = .returned (.bool true) ∧ Upd [] W w') := fun W hW => by
                    have := sameM_ W y z (HO9S.out.rd.upd0 hW) (HRZ.out.1.upd0 hW) (by have := HYB.out; omega) HRZ.out.2
                    rw [(eqCore_iff y z).2 HZY.out.symm] at this
                    exact this
                  have hsz := size_msgL z
                  obtain ⟨kz, hkz⟩ : ∃ q, 0 + j * 4 = q := ⟨_, rfl⟩
                  rw [hkz] at HQL
                  have HKZ := Lib.hid hkz
                  clear hel hkz
                  go_upto_region 28 with (fail)
                  go_simp
                  try rw [hwS]
                  clear hwS ct hfr
                  refine wp_region_quiet_all (Upd [] wS) (by kernel_rfl) (by kernel_rfl) (Upd.refl _ _).drew ?_
                  repeat (first
                    | go_big_quiet_skip
                    | (refine wpQuiet_valK rfl (quiet_load_row 32 _ rfl b8 rfl _ HQ8.out Try.underlying32 rfl hsy) (fun K hK => ?_); go_simp; refine hK _ ?_; clear hK K)
                    | (refine wpQuiet_valK rfl (quiet_load_mid 32 _ rfl gl kz rfl _ HQL.out Try.underlying32 rfl hsz) (fun K hK => ?_); go_simp; refine hK _ ?_; clear hK K)
                    | (refine wpQuiet_valK rfl (quiet_of_yields (yields_index Try.underlying33 elem_msgs size_msg4 (g := gl) rfl rfl rfl hjn HKZ.out)) (fun K hK => ?_); go_simp; refine hK _ ?_; clear hK K)
                    | go_big_quiet_step ((intro hw2; first
                        | rfl
                        | ((with_reducible refine (HSM.out _ hw2).mono ?_); exact fun e w' h => ⟨h.1, hw2.trans h.2⟩))))
                  refine wpQuiet_nil ?_
                  intro wT hUT
                  have HBT := Lib.hid (HB9S.out.upd0 hUT)
                  have HMT := Lib.hid (HM9S.out.upd0 hUT)
                  have HTT : Hid (OwnL wT gT (.slice (some ⟨gT, 0, none⟩) n n) (tk.set j true)) := OwnA.upd0 HT9S.out hUT
                  have HUT := Lib.hid (HU9S.out.trans hUT)
                  clear hUT HQ8 HQL HSM hsz hsy hoy
                  go_wp2_with (fail)
                  go_roundw
                  case rel => exact ⟨i + 1, dropE es' ((j : Int) + 1), D7, tk.set j true, by omega, by go_num, HLF9.out, fun q hq hql => by
                    by_cases hqj : q = j
                    · subst hqj; simp
                    · have hq' : q < tk.length := by simpa using hq
                      have := HTK.out q hq' (by have := HIJ.out; omega)
                      rw [List.getElem_set, this]; simp, HTT.out, HMT.out, HBT.out, HUT.out⟩
                  case measure => simp [intOf]; omega
            · have hli : ¬ (i : Int) < (NO : Int) + (n : Int) := by omega
              have hil : i = NO + n := by omega
              have hnil : es' = [] := HLF.out.none (fun j hj => HTK.out j hj (by have := HLF.out.1; have := HN.out.1; omega))
              subst hnil
              have hb0 := built_msg0
              clear hil hlt
              go_wp2_with (with_reducible refine arm_build0 hb0 ?_)
              with_reducible refine (put_ _ _ bb bm n [] D' HBr.out 0 0 0 _ [] (RdB.nil _) (by simp) (by have := HN.out.2; omega) (by simp)).mono ?_
              rintro e w7 ⟨v7, D7, rfl, hB7, hn7, hU7⟩
              have HB7 := Lib.hid hB7
              have HU7 : Hid (Upd [] w w7) := HUr.out.trans' hU7 (fun k hm hl => by simp at hm; have := HB2.out.low; have := HL2.out; omega)
              clear hB7 hn7 hU7 hb0
              go_wp2_with (fail)
              refine (len_ _ _ bb bm (n + 1) _ D7 HB7.out).mono ?_
              rintro e w8 ⟨rfl, rfl⟩
              simp only [List.nil_append, List.length_cons, List.length_nil, Nat.zero_add]
              go_wp2_with (fail)
              go_ret
              exact ⟨by simp, HU7.out⟩
end Go.Proofs.Ytjeddokenpkpnaa
