/-
  Steps; fits.
-/
import Derived.Test.YtjeddokenpkpnaaPlayE
namespace Go.Proofs.Ytjeddokenpkpnaa
open Go Go.RowKit Go.Proofs Go.Maps
/-- a step of a script -/
structure Stp where
  kind : Int
  m : Ent
  x : Int
  n : Int
def Stp.cells (s : Stp) : List Value := [.int .i64 s.kind, .int .i64 s.m.id, .int .i64 s.m.fr, .int .i64 s.m.to, s.m.v, .int .i64 s.x, .int .i64 s.n]
structure RdS (w : World) (v : Value) (ss : List Stp) : Prop where
  row : RdA w 7 v (ss.map Stp.cells)
  bodies : ∀ s ∈ ss, RdB w s.m.v s.m.b
theorem RdS.upd0 {w w' : World} {v : Value} {ss : List Stp} (h : RdS w v ss) (u : Upd [] w w') : RdS w' v ss := ⟨h.row.upd0 u, fun t ht => (h.bodies t ht).upd0 u⟩
/-- how often, all together -/
def times (ss : List Stp) : Nat := (ss.map fun s => s.n.toNat).sum
theorem times_snoc (ss : List Stp) (i : Nat) (hi : i < ss.length) : times (ss.take (i + 1)) = times (ss.take i) + ss[i].n.toNat := by
  rw [take_snoc' ss i hi, times, List.map_append, List.sum_append]
  simp [times]
theorem times_le (ss : List Stp) (i : Nat) : times (ss.take i) ≤ times ss := by
  conv => rhs; rw [← List.take_append_drop i ss]
  simp only [times, List.map_append, List.sum_append]
  omega
structure Fit (ss : List Stp) : Prop where
  len : ss.length ≤ 200
  body : ∀ s ∈ ss, s.m.b.length ≤ 3000
  some : ∀ s ∈ ss, s.n ≤ 9000
  all : times ss ≤ 9000
/-- what fits answers -/
def FitAns (w : World) (ss : List Stp) (e : Ending) (w' : World) : Prop := ∃ b, e = .returned (.bool b) ∧ (b = true → Fit ss) ∧ Upd [] w w'
theorem elem_steps : Try.prog.elem 41 = 52 := by kernel_rfl
theorem size_step7 : (Try.prog.info? 52).map (·.size) = some 7 := by kernel_rfl
set_option maxRecDepth 100000 in
set_option maxHeartbeats 3200000 in
theorem fits_ (w : World) (v : Value) (ss : List Stp) (h : RdS w v ss) (hn : ss.length ≤ maxLen) (hb : ∀ s ∈ ss, s.m.b.length ≤ maxLen) :
    Calls Try.prog 14 #[v] w (FitAns w ss) := by
  obtain ⟨A, c, eA, _⟩ := h.row.isSlice
  rw [List.length_map] at eA
  subst eA
  obtain ⟨N, hN⟩ : ∃ n, ss.length = n := ⟨_, rfl⟩
  have hNi : (N : Int) ≤ 9223372036854775807 := by simp only [maxLen] at hn; omega
  rw [hN] at h ⊢
  have H := Lib.hid h
  have HB := Lib.hid hb
  have HN := Lib.hid hN
  clear h hb hN hn
  go_enter Try.func14, Try.ntmps14
  go_wp2_with (fail)
  go_loopw [3, 4] (fun nv iv wr => ∃ (i : Nat) (u : Int), iv = .int .i64 i ∧ nv = .int .i64 u ∧ i ≤ N ∧ (∀ s ∈ ss.take i, s.m.b.length ≤ 3000 ∧ s.n ≤ 9000) ∧ (i ≤ 200 → u = times (ss.take i)) ∧ Upd [] w wr) (fun _ iv _ => N - (intOf iv).toNat)
  case atStart => exact ⟨0, 0, rfl, rfl, Nat.zero_le _, by simp, fun _ => by simp [times], Upd.refl _ _⟩
  case round =>
    obtain ⟨i, u, rfl, rfl, hi, hF, hT, hU⟩ := hrel
    have HF := Lib.hid hF
    have HT := Lib.hid hT
    have HU := Lib.hid hU
    have HI : Hid (i ≤ N) := hi
    clear hF hT hU hi
    by_cases hlt : i < N
    · have hli : (i : Int) < (N : Int) := by omega
      have hil : i < ss.length := by rw [HN.out]; exact hlt
      obtain ⟨s, hs⟩ : ∃ s, ss[i] = s := ⟨_, rfl⟩
      have HSM : Hid (s ∈ ss) := by show s ∈ ss; rw [← hs]; exact List.getElem_mem hil
      obtain ⟨g, p, c', e, _⟩ := RdA.at H.out.row (by rw [List.length_map, HN.out]; omega)
      injection e with e e1 e2
      clear e1 e2
      subst e
      have hel := RdA.elem H.out.row i (by rw [List.length_map]; exact hil)
      simp only [List.getElem_map, hs] at hel
      have hel := rangeAt_upd hel HU.out (by simp)
      obtain ⟨k, hk⟩ : ∃ q, p + i * 7 = q := ⟨_, rfl⟩
      rw [hk] at hel
      obtain ⟨Q, qc, eq, _⟩ := ((H.out.bodies s HSM.out)).isSlice
      have c4 : wr.cell? ⟨g, k + 4, none⟩ = some (.slice Q s.m.b.length qc) := by rw [← eq]; exact hel 4 _ rfl
      have c6 : wr.cell? ⟨g, k + 6, none⟩ = some (.int .i64 s.n) := hel 6 _ rfl
      have HTK : Hid (ss.take (i + 1) = ss.take i ++ [s]) := by show ss.take (i + 1) = ss.take i ++ [s]; rw [take_snoc' ss i hil, hs]
      have HTM : Hid (times (ss.take (i + 1)) = times (ss.take i) + s.n.toNat) := by show times (ss.take (i + 1)) = times (ss.take i) + s.n.toNat; rw [times_snoc ss i hil, hs]
      have HSL : Hid (s.m.b.length ≤ maxLen) := HB.out s HSM.out
      obtain ⟨bl, hbl⟩ : ∃ n, s.m.b.length = n := ⟨_, rfl⟩
      obtain ⟨sn, hsn⟩ : ∃ n, s.n = n := ⟨_, rfl⟩
      rw [hbl] at c4
      rw [hsn] at c6 HTM
      have HBL := Lib.hid hbl
      have HSN := Lib.hid hsn
      clear hel hs eq hbl hsn hil
      by_cases h1 : 3000 < bl
      · have h1i : (3000 : Int) < (bl : Int) := by omega
        clear h1
        go_wp2_with (with_reducible refine arm_index_g (g := g) (i := i) (by kernel_rfl) (by with_unfolding_all exact rfl) (by with_unfolding_all exact rfl) rfl Try.underlying41 elem_steps size_step7 hlt hk ?_)
        go_ret
        exact ⟨false, rfl, by simp, HU.out⟩
      · have h1i : (bl : Int) ≤ 3000 := by omega
        have h1f : decide ((3000 : Int) < (bl : Int)) = false := by simp; omega
        by_cases h2 : 9000 < sn
        · have h2i : decide ((9000 : Int) < sn) = true := by simp; omega
          clear h1 h2 h1i
          go_wp2_with (with_reducible refine arm_index_g (g := g) (i := i) (by kernel_rfl) (by with_unfolding_all exact rfl) (by with_unfolding_all exact rfl) rfl Try.underlying41 elem_steps size_step7 hlt hk ?_)
          go_ret
          exact ⟨false, rfl, by simp, HU.out⟩
        · have h2i : decide ((9000 : Int) < sn) = false := by simp; omega
          have HFN : Hid (∀ s ∈ ss.take (i + 1), s.m.b.length ≤ 3000 ∧ s.n ≤ 9000) := fun t ht => by
            rw [HTK.out] at ht
            rcases List.mem_append.1 ht with ht | ht
            · exact HF.out t ht
            · rw [List.mem_singleton.1 ht, HBL.out, HSN.out]; omega
          have h9 : Hid (sn ≤ 9000) := by show sn ≤ 9000; omega
          clear h1 h2 h1i
          by_cases h3 : 0 < sn
          · by_cases h4 : i < 200
            · have hu : u = (times (ss.take i) : Int) := HT.out (by omega)
              have hle : times (ss.take i) ≤ i * 9000 := by
                have h5 : ∀ (l : List Stp), (∀ s ∈ l, s.n ≤ 9000) → times l ≤ l.length * 9000 := fun l => by
                  induction l with
                  | nil => simp [times]
                  | cons a r ih =>
                    intro hl
                    have := ih (fun s hs => hl s (List.mem_cons_of_mem _ hs))
                    have := hl a (by simp)
                    simp only [times, List.map_cons, List.sum_cons, List.length_cons] at *
                    omega
                have := h5 (ss.take i) (fun s hs => (HF.out s hs).2)
                rw [List.length_take] at this
                have h6 : min i ss.length ≤ i := Nat.min_le_left _ _
                have := Nat.mul_le_mul_right 9000 h6
                omega
              have hu0 : 0 ≤ u := by omega
              have hu1 : u ≤ 1800000 := by omega
              have hs9 : sn ≤ 9000 := h9.out
              have HUE := Lib.hid hu
              clear hu hle
              go_wp2_with (with_reducible refine arm_index_g (g := g) (i := i) (by kernel_rfl) (by with_unfolding_all exact rfl) (by with_unfolding_all exact rfl) rfl Try.underlying41 elem_steps size_step7 hlt hk ?_)
              go_roundw
              case rel => exact ⟨i + 1, u + sn, by go_num, rfl, by omega, HFN.out, fun _ => by rw [HTM.out, HUE.out]; omega, HU.out⟩
              case measure => simp [intOf]; omega
            · have h4' : 200 ≤ i := by omega
              clear h4
              go_wp2_with (with_reducible refine arm_index_g (g := g) (i := i) (by kernel_rfl) (by with_unfolding_all exact rfl) (by with_unfolding_all exact rfl) rfl Try.underlying41 elem_steps size_step7 hlt hk ?_)
              go_roundw
              case rel => exact ⟨i + 1, _, by go_num, rfl, by omega, HFN.out, fun h => by omega, HU.out⟩
              case measure => simp [intOf]; omega
          · have h3i : sn ≤ 0 := by omega
            clear h3
            go_wp2_with (with_reducible refine arm_index_g (g := g) (i := i) (by kernel_rfl) (by with_unfolding_all exact rfl) (by with_unfolding_all exact rfl) rfl Try.underlying41 elem_steps size_step7 hlt hk ?_)
            go_roundw
            case rel => exact ⟨i + 1, u, by go_num, rfl, by omega, HFN.out, fun h => by rw [HTM.out, HT.out (by omega)]; omega, HU.out⟩
            case measure => simp [intOf]; omega
    · have hin : i = N := by have := HI.out; omega
      have hli : ¬ (i : Int) < (N : Int) := by omega
      have HTA : Hid (ss.take i = ss) := by show ss.take i = ss; rw [hin]; exact List.take_of_length_le (by rw [HN.out]; exact Nat.le_refl _)
      have HIN : Hid (i = N) := hin
      clear hin hlt
      by_cases h1 : 200 < N
      · have h1f : decide ((N : Int) ≤ 200) = false := by simp; omega
        clear h1
        go_wp2_with (fail)
        go_ret
        exact ⟨false, rfl, by simp, HU.out⟩
      · have h1f : decide ((N : Int) ≤ 200) = true := by simp; omega
        have h1i : Hid (N ≤ 200) := by show N ≤ 200; omega
        clear h1
        go_wp2_with (fail)
        go_ret
        refine ⟨_, rfl, fun hd => ?_, HU.out⟩
        have hd' : u ≤ 9000 := by simpa using hd
        have hu := HT.out (by have := HIN.out; have := h1i.out; omega)
        rw [HTA.out] at hu
        exact ⟨by rw [HN.out]; exact h1i.out, fun s hs => (HF.out s (by rw [HTA.out]; exact hs)).1, fun s hs => (HF.out s (by rw [HTA.out]; exact hs)).2, by omega⟩
end Go.Proofs.Ytjeddokenpkpnaa
