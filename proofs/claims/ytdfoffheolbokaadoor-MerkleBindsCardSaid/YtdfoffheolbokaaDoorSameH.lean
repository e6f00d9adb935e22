/-
  same: two lists of hashes, hash by hash.
-/
import Derived.Test.YtdfoffheolbokaaDoorHashes
import Derived.Test.YtdfoffheolbokaaDoorEqHash
namespace Go.Proofs.YtdfoffheolbokaaDoor
open Go Go.RowKit Go.Proofs
theorem take_snocH (l : List H8) (k : Nat) (h : k < l.length) : l.take (k + 1) = l.take k ++ [l[k]] := List.take_succ_eq_append_getElem h
set_option maxRecDepth 100000 in
set_option maxHeartbeats 3200000 in
theorem sameH (w : World) (va vb : Value) (la lb : List H8) (ha : RdH w va la) (hb : RdH w vb lb) (hl : la.length ≤ 1000000) (hm : lb.length ≤ 1000000) :
    Calls Tryd.prog 24 #[va, vb] w fun e w' => e = .returned (.bool (la == lb)) ∧ Upd [] w w' := by
  obtain ⟨A, ca, ea, hca1, hca2⟩ := ha.isSlice
  obtain ⟨D, cb, eb, hcb1, hcb2⟩ := hb.isSlice
  obtain ⟨n, hn⟩ : ∃ n, la.length = n := ⟨_, rfl⟩
  obtain ⟨m, hm'⟩ : ∃ n, lb.length = n := ⟨_, rfl⟩
  rw [hn] at ea hl
  rw [hm'] at eb hm
  rw [ea] at ha ⊢
  rw [eb] at hb ⊢
  have hgd := guard_h32
  by_cases hlen : n = m
  · subst hlen
    have HA := Lib.hid ha
    have HB := Lib.hid hb
    have HN := Lib.hid hn
    have HM := Lib.hid hm'
    clear ha hb hn hm' ea eb
    go_enter Tryd.func24, Tryd.ntmps24
    go_wp2_with (fail)
    go_loopw [5] (fun iv wr => ∃ k : Nat, k ≤ n ∧ iv = .int .i64 k ∧ la.take k = lb.take k ∧ Upd [] w wr) (fun iv _ => n - (intOf iv).toNat)
    case atStart => exact ⟨0, by omega, rfl, by simp, Upd.refl _ _⟩
    case round =>
      obtain ⟨k, hk, rfl, heq, hU⟩ := hrel
      have HU := Lib.hid hU
      have HEQ := Lib.hid heq
      obtain ⟨wo, rfl⟩ : ∃ wo : World, wo = wr := ⟨_, rfl⟩
      clear hU heq
      by_cases h : k < n
      · have h' : (k : Int) < (n : Int) := by omega
        have hka : k < la.length := by rw [HN.out]; exact h
        have hkb : k < lb.length := by rw [HM.out]; exact h
        obtain ⟨ga, pa, c1, e1, _, _, _⟩ := HA.out.at (by omega)
        injection e1 with e2 e3 e4
        obtain ⟨gb, pb, c2, e5, _, _, _⟩ := HB.out.at (by omega)
        injection e5 with e6 e7 e8
        have ha1 := HA.out.upd0 HU.out
        have hb1 := HB.out.upd0 HU.out
        rw [e2] at ha1 ⊢
        rw [e6] at hb1 ⊢
        have hela := ha1.elem k hka
        have helb := hb1.elem k hkb
        have hxl : (la[k]'hka).length = 32 := ha1.1 _ (List.getElem_mem hka)
        have hyl : (lb[k]'hkb).length = 32 := hb1.1 _ (List.getElem_mem hkb)
        obtain ⟨x, hx⟩ : ∃ x, la[k]'hka = x := ⟨_, rfl⟩
        obtain ⟨y, hy⟩ : ∃ x, lb[k]'hkb = x := ⟨_, rfl⟩
        rw [hx] at hela hxl
        rw [hy] at helb hyl
        have hq := fun W => neq_h32 x y hxl hyl W
        have hsx := szlist hxl
        have hsy := szlist hyl
        have HE1 : Hid (∀ W, Upd [] wo W → W.rangeAt ga (pa + k * 32) (x.map U8)) := fun W hW j v hj => hW.cell (hela j v hj) (by simp)
        have HE2 : Hid (∀ W, Upd [] wo W → W.rangeAt gb (pb + k * 32) (y.map U8)) := fun W hW j v hj => hW.cell (helb j v hj) (by simp)
        have HX := Lib.hid hx
        have HY := Lib.hid hy
        obtain ⟨lx, hlx⟩ : ∃ l, x.map U8 = l := ⟨_, rfl⟩
        obtain ⟨ly, hly⟩ : ∃ l, y.map U8 = l := ⟨_, rfl⟩
        obtain ⟨bb, hbb⟩ : ∃ b, (x != y) = b := ⟨_, rfl⟩
        rw [hlx, hly, hbb] at hq
        rw [hlx] at HE1 hsx
        rw [hly] at HE2 hsy
        have HBB := Lib.hid hbb
        clear hela helb hx hy hlx hly hbb ha1 hb1 e2 e3 e4 e6 e7 e8 hxl hyl
        go_wp2_with (fail)
        refine wp_region_quiet_all (Upd [] wo) (by kernel_rfl) (by kernel_rfl) (Upd.refl _ _).drew ?_
        repeat (first
          | (refine wpQuiet_val rfl (quiet_load_mid 27 _ rfl ga (pa + k * 32) rfl _ HE1.out Tryd.underlying27 rfl hsx) ?_)
          | (refine wpQuiet_val rfl (quiet_load_mid 27 _ rfl gb (pb + k * 32) rfl _ HE2.out Tryd.underlying27 rfl hsy) ?_)
          | (refine wpQuiet_step (fun K hK => ?_)
             go_simp
             first
               | (refine ⟨_, fun _ _ => rfl, hK _ ?_⟩; clear hK K)
               | (refine hK _ ?_; clear hK K)))
        refine wpQuiet_nil ?_
        intro w6 hU6
        have hT6 := HU.out.trans hU6
        cases bb with
        | true =>
          go_wp2_with (fail)
          go_ret
          refine ⟨ret_eq (congrArg Value.bool ?_), hT6⟩
          symm
          rw [beq_eq_false_iff_ne]
          intro e
          have h1 := HBB.out
          rw [← HX.out, ← HY.out] at h1
          simp [e] at h1
        | false =>
          have hxy : x = y := by have := HBB.out; simpa using this
          have HT6 := Lib.hid hT6
          have HXY := Lib.hid hxy
          clear hU6 hT6 hq hxy
          go_wp2_with (fail)
          go_roundw
          case rel => exact ⟨k + 1, by omega, by go_num, by rw [take_snocH la k hka, take_snocH lb k hkb, HEQ.out, HX.out, HY.out, HXY.out], HT6.out⟩
          case measure => simp [intOf]; omega
      · obtain rfl : k = n := by omega
        have h' : ¬ ((k : Int) < (k : Int)) := by omega
        have he : la = lb := by
          have := HEQ.out
          rwa [List.take_of_length_le (by rw [HN.out]; omega), List.take_of_length_le (by rw [HM.out]; omega)] at this
        have HE := Lib.hid he
        clear he
        go_wp2_with (fail)
        go_ret
        exact ⟨ret_eq (by rw [HE.out]; simp), HU.out⟩
  · have hne : (la == lb) = false := by rw [beq_eq_false_iff_ne]; intro e; exact hlen (by rw [← hn, ← hm', e])
    have h' : ¬ ((n : Int) = (m : Int)) := by omega
    have HE := Lib.hid hne
    clear ha hb hn hm' ea eb hne
    go_enter Tryd.func24, Tryd.ntmps24
    go_wp2_with (fail)
    go_ret
    exact ⟨ret_eq (by rw [HE.out]; rfl), Upd.refl _ _⟩
end Go.Proofs.YtdfoffheolbokaaDoor
