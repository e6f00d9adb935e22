/-
  The law Sha256Pads: for every length it returns true and makes only new memory.
-/
import Derived.Test.YtdejiachopiaaaaPad256
import Derived.Test.YtdejiachopiaaaaSame
namespace Go.Proofs.Ytdejiachopiaaaa
open Go Go.RowKit Go.Proofs
set_option maxHeartbeats 3200000 in
theorem rooms02 (w : World) (B : Nat) (va vb : Value) (la lb : List (BitVec 8)) (ha : OwnB w B va la) (hb : OwnB w B vb lb) (hap : ∀ g, va.ownBlock = some g → vb.ownBlock ≠ some g) (hl : la.length ≤ 1000000) (hm : lb.length ≤ 1000000) (hB : B ≤ w.heap.size) :
    Calls Try.prog 10 #[va, vb] w fun e w' => e = .returned (.bool true) ∧ Upd (va.ownBlock.toList ++ vb.ownBlock.toList) w w' := by
  obtain ⟨ba, ca, rfl⟩ := ha.isSlice
  obtain ⟨bb, cb, rfl⟩ := hb.isSlice
  obtain ⟨S, hS⟩ : ∃ S, (Value.slice ba la.length ca).ownBlock.toList ++ (Value.slice bb lb.length cb).ownBlock.toList = S := ⟨_, rfl⟩
  have hSa : ∀ g, (Value.slice ba la.length ca).ownBlock = some g → g ∈ S := fun g hg => by rw [← hS, hg]; simp
  have hSb : ∀ g, (Value.slice bb lb.length cb).ownBlock = some g → g ∈ S := fun g hg => by rw [← hS, hg]; simp
  rw [hS]
  clear hS
  go_enter Try.func10, Try.ntmps10
  go_wp2
  go_loopw [5, 7] (fun x i wr => ∃ k : Nat, k ≤ 64 ∧ i = .int .i64 k ∧ OwnB wr B x (la ++ List.replicate k 33) ∧ OwnB wr B (.slice bb lb.length cb) lb ∧ (∀ g, (Value.slice bb lb.length cb).ownBlock = some g → x.ownBlock ≠ some g) ∧ Upd S w wr ∧ (∀ g, x.ownBlock = some g → g < w.heap.size → g ∈ S)) (fun _ i _ => 64 - (intOf i).toNat)
  case atStart => exact ⟨0, by omega, rfl, by simpa using ha, hb, fun g h1 h2 => hap g h2 h1, Upd.refl _ _, fun g hg _ => hSa g hg⟩
  case round =>
    clear ha hb hap hSa
    obtain ⟨k, hk, rfl, hX, hY, hA, hU, hXS⟩ := hrel
    have hs := hU.size
    by_cases h : k < 64
    · have hll : (la ++ List.replicate k (33 : BitVec 8)).length ≤ 2000000 := by simp; omega
      go_wp2_with (first | (refine append_byte rfl _ _ rfl B u5 _ rfl wr 33 rfl hX rfl (by omega) (by omega) ?_; intro v2 w2 hO2 _ hU2 hK2))
      have e2 : (la ++ List.replicate k (33 : BitVec 8)) ++ [33] = la ++ List.replicate (k + 1) 33 := by
        rw [List.append_assoc, ← List.replicate_succ']
      have k1 := (hK2.alias _ _ _ hY (AlB.apart hA)).1
      rw [e2] at hO2
      go_roundw
      case rel =>
        exact ⟨k + 1, by omega, by go_num, hO2, k1, fun g h1 h2 => (hK2.block g h2).elim (fun e => hA g h1 e) (fun e => by have := (hY.lt g h1).2; omega), hU.rowS hU2 hXS, fun g hg hl => (hK2.block g hg).elim (fun e => hXS g e hl) (fun e => by omega)⟩
      case measure => simp [intOf]; omega
    · obtain rfl : k = 64 := by omega
      obtain ⟨bx, cx, ex⟩ := hX.isSlice
      rw [ex] at hX hA hXS ⊢
      clear hk h ex
      go_wp2
      obtain ⟨X, hXX⟩ : ∃ X, la ++ List.replicate 64 (33 : BitVec 8) = X := ⟨_, rfl⟩
      have hXl : X.length = la.length + 64 := by rw [← hXX]; simp
      have hXg : ∀ i (h : i < X.length), la.length ≤ i → X[i] = 33 := fun i h hi => by
        subst hXX
        rw [List.getElem_append_right hi, List.getElem_replicate]
      rw [hXX] at hX hA hXS ⊢
      have HX0 := Lib.hid hXg
      have HXl := Lib.hid hXl
      clear hXX hXg hXl
      rw [show ((64 : Nat) : Int) = 64 from rfl]
      go_loopw [6, 8] (fun y i wr => ∃ k : Nat, k ≤ 64 ∧ i = .int .i64 k ∧ OwnB wr B y (lb ++ List.replicate k 34) ∧ OwnB wr B (.slice bx X.length cx) X ∧ (∀ g, (Value.slice bx X.length cx).ownBlock = some g → y.ownBlock ≠ some g) ∧ Upd S w wr ∧ (∀ g, y.ownBlock = some g → g < w.heap.size → g ∈ S)) (fun _ i _ => 64 - (intOf i).toNat)
      case atStart => exact ⟨0, by omega, rfl, by simpa using hY, hX, fun g h1 h2 => hA g h2 h1, hU, fun g hg _ => hSb g hg⟩
      case round =>
        clear hX hY hA hU hXS hSb hs
        obtain ⟨k, hk, rfl, hY, hX, hA, hU, hYS⟩ := hrel
        have hs := hU.size
        by_cases h : k < 64
        · have hll : (lb ++ List.replicate k (34 : BitVec 8)).length ≤ 2000000 := by simp; omega
          go_wp2_with (first | (refine append_byte rfl _ _ rfl B u6 _ rfl wr 34 rfl hY rfl (by omega) (by omega) ?_; intro v2 w2 hO2 _ hU2 hK2))
          have e2 : (lb ++ List.replicate k (34 : BitVec 8)) ++ [34] = lb ++ List.replicate (k + 1) 34 := by
            rw [List.append_assoc, ← List.replicate_succ']
          have k1 := (hK2.alias _ _ _ hX (AlB.apart hA)).1
          rw [e2] at hO2
          go_roundw
          case rel =>
            exact ⟨k + 1, by omega, by go_num, hO2, k1, fun g h1 h2 => (hK2.block g h2).elim (fun e => hA g h1 e) (fun e => by have := (hX.lt g h1).2; omega), hU.rowS hU2 hYS, fun g hg hl => (hK2.block g hg).elim (fun e => hYS g e hl) (fun e => by omega)⟩
          case measure => simp [intOf]; omega
        · obtain rfl : k = 64 := by omega
          obtain ⟨by_, cy, ey⟩ := hY.isSlice
          have hyl : (lb ++ List.replicate 64 (34 : BitVec 8)).length = lb.length + 64 := by simp
          rw [hyl] at ey
          subst ey
          have hXl := HXl.out
          obtain ⟨g, c, eX, _, _, _, _⟩ := hX.at (by omega)
          injection eX with e1 e2 e3
          subst e1 e3
          clear hk h hyl hYS hA hXl
          go_wp2
          go_loopw [9] (fun i wr => ∃ k : Nat, la.length ≤ k ∧ k ≤ X.length ∧ i = .int .i64 k ∧ OwnB wr B (.slice (some ⟨g, 0, none⟩) X.length cx) X ∧ Upd S w wr) (fun i _ => X.length - (intOf i).toNat)
          case atStart => exact ⟨la.length, by omega, by have := HXl.out; omega, rfl, hX, hU⟩
          case round =>
            clear hX hY hU hs
            obtain ⟨k, hk1, hk2, rfl, hX, hU⟩ := hrel
            have hXb : X.length ≤ 3000000 := by have := HXl.out; omega
            by_cases h : k < X.length
            · have hc := hX.cell k (by omega)
              rw [HX0.out k (by omega) hk1] at hc
              have hi : (0 : Int) ≤ k ∧ (k : Int) < X.length := by omega
              go_wp2
              go_roundw
              case rel => exact ⟨k + 1, by omega, by omega, by go_num, hX, hU⟩
              case measure => simp [intOf]; omega
            · obtain rfl : k = X.length := by omega
              go_wp2
              go_ret
              exact ⟨ret_eq (by simp), hU⟩
set_option maxHeartbeats 3200000 in
theorem law_pads256 (w : World) (x : BitVec 64) : Calls Try.prog 3 #[U64 x] w fun e w' => e = .returned (.bool true) ∧ Upd [] w w' := by
  have hl : (pad256 x).length ≤ 200 ∧ 0 < (pad256 x).length := by rw [pad256_length]; have := noughts256_lt x; omega
  obtain ⟨p, hp⟩ : ∃ p, pad256 x = p := ⟨_, rfl⟩
  have h1 := fun w => padof256 w x
  have h2 := fun w => refpad256 w x
  rw [hp] at hl h1 h2
  obtain ⟨n, hn⟩ : ∃ n, p.length = n := ⟨_, rfl⟩
  have HN := Lib.hid hn
  rw [hn] at hl
  have hbp : (p == p) = true := by simp
  have H1 := Lib.hid h1
  have H2 := Lib.hid h2
  have HP := Lib.hid hbp
  clear h1 h2 hp hbp hn
  go_enter Try.func3, Try.ntmps3
  go_upto_region 2 with (first | (go_at_call 7; refine (H1.out _).mono ?_; rintro e w1 ⟨v1, rfl, hO1, hU1⟩))
  go_upto_region 3 with (first | (go_at_call 7; refine (H1.out _).mono ?_; rintro e w2 ⟨v2, rfl, hO2, hU2⟩))
  go_upto_region 4 with (first | (go_at_call 8; refine (H2.out _).mono ?_; rintro e w3 ⟨v3, rfl, hO3, hU3⟩))
  obtain ⟨g1, c1, rfl, b1, t1, _, _⟩ := hO1.at (by rw [HN.out]; omega)
  obtain ⟨g2, c2, rfl, b2, t2, _, _⟩ := hO2.at (by rw [HN.out]; omega)
  obtain ⟨g3, c3, rfl, b3, t3, _, _⟩ := hO3.at (by rw [HN.out]; omega)
  have z1 := hU1.size
  have z2 := hU2.size
  have z3 := hU3.size
  have hA := (hO1.upd0 hU2).upd0 hU3
  have hB := (hO2.upd0 hU3).mono (C := w.heap.size) (fun k hk => by simp [Value.ownBlock] at hk; omega)
  have hC := hO3.mono (C := w.heap.size) (fun k hk => by simp [Value.ownBlock] at hk; omega)
  have hU := (hU1.trans hU2).trans hU3
  have hg : g1 ≠ g2 ∧ g1 ≠ g3 ∧ g2 ≠ g3 := by omega
  rw [HN.out] at hA hB hC ⊢
  clear hO1 hO2 hO3 hU1 hU2 hU3 b1 b2 b3 t1 t2 t3 z1 z2 z3
  have hcur : ReadB w3 (.slice (some ⟨g1, 0, none⟩) n c1) p ∧ ReadB w3 (.slice (some ⟨g2, 0, none⟩) n c2) p ∧ ReadB w3 (.slice (some ⟨g3, 0, none⟩) n c3) p := ⟨hA.read, hB.read, hC.read⟩
  have hp2 : p.length ≤ 281474976710656 := by rw [HN.out]; omega
  go_upto_region 6 with (first | (go_at_call 9; refine (same02 _ _ _ p p (by first | exact hcur.1 | exact hcur.2.1) hcur.2.2 hp2 hp2).mono ?_; rintro e wq ⟨rfl, nq, rfl⟩; rw [HP.out]; replace hcur := (show ReadB (World.drewN _ nq) (.slice (some ⟨g1, 0, none⟩) n c1) p ∧ ReadB (World.drewN _ nq) (.slice (some ⟨g2, 0, none⟩) n c2) p ∧ ReadB (World.drewN _ nq) (.slice (some ⟨g3, 0, none⟩) n c3) p from hcur)))
  clear hcur
  rename Nat => nq2
  generalize hw4 : World.drewN w3 _ = w4
  have hA : OwnB w4 w.heap.size (.slice (some ⟨g1, 0, none⟩) n c1) p := by rw [← hw4]; exact hA
  have hB : OwnB w4 w.heap.size (.slice (some ⟨g2, 0, none⟩) n c2) p := by rw [← hw4]; exact hB
  have hC : OwnB w4 w.heap.size (.slice (some ⟨g3, 0, none⟩) n c3) p := by rw [← hw4]; exact hC
  have hU : Upd [] w w4 := by rw [← hw4]; exact hU.drewN _
  clear hw4
  go_wp2
  have hn0 := HN.out
  go_loopw [6] (fun i wr => ∃ k : Nat, k ≤ n ∧ i = .int .i64 k ∧ (∃ l : List (BitVec 8), l.length = n ∧ OwnB wr w.heap.size (.slice (some ⟨g1, 0, none⟩) n c1) l) ∧ OwnB wr w.heap.size (.slice (some ⟨g2, 0, none⟩) n c2) p ∧ OwnB wr w.heap.size (.slice (some ⟨g3, 0, none⟩) n c3) p ∧ Upd [] w wr) (fun i _ => n - (intOf i).toNat)
  case atStart => exact ⟨0, by omega, rfl, ⟨p, hn0, hA⟩, hB, hC, hU⟩
  case round =>
    clear hA hB hC hU hn0
    obtain ⟨k, hk, rfl, ⟨l, hln, hA⟩, hB, hC, hU⟩ := hrel
    have hs := hU.size
    have hlow := (hA.lt g1 rfl).1
    by_cases h : k < n
    · obtain ⟨c, hc⟩ : ∃ c, wr.cell? ⟨g1, k, none⟩ = some (U8 c) := ⟨_, hA.cell k (by omega)⟩
      have hf := hA.frozen k (by omega)
      have hi : (0 : Int) ≤ k ∧ (k : Int) < n := by omega
      have hA2 := hA.set k (by omega) 51
      have hX : Upd [g1] wr (wr.setCell ⟨g1, k, none⟩ (U8 51)) := (Upd.refl _ wr).setCell _ _ (by simp)
      have hB2 := hB.upd hX (fun k hk => by simp [Value.ownBlock] at hk; simp; omega)
      have hC2 := hC.upd hX (fun k hk => by simp [Value.ownBlock] at hk; simp; omega)
      have hU2 := hU.trans' hX (by simp; omega)
      have hl2 : (l.set k 51).length = n := by simp [hln]
      have hM : n - (intOf (Value.int IntKind.i64 ((k : Int) + 1))).toNat < n - (intOf (Value.int IntKind.i64 (k : Int))).toNat := by simp [intOf]; omega
      have HM := Lib.hid hM
      have HH := Lib.hid (And.intro hA2 (And.intro hB2 (And.intro hC2 (And.intro hU2 hl2))))
      clear hA2 hB2 hC2 hU2 hl2 hX hM hA hB hC hU hln
      go_wp2
      exact ⟨⟨k + 1, by omega, by go_num, ⟨l.set k 51, HH.out.2.2.2.2, HH.out.1⟩, HH.out.2.1, HH.out.2.2.1, HH.out.2.2.2.1⟩, HM.out⟩
    · obtain rfl : n = k := by omega
      go_wp2
      go_loopw [7, 8] (fun v i wr => ∃ k : Nat, k ≤ 100 ∧ i = .int .i64 k ∧ OwnB wr w.heap.size v (l ++ List.replicate k 68) ∧ OwnB wr w.heap.size (.slice (some ⟨g1, 0, none⟩) n c1) l ∧ AlB (.slice (some ⟨g1, 0, none⟩) n c1) l v (l ++ List.replicate k 68) ∧
        OwnB wr w.heap.size (.slice (some ⟨g2, 0, none⟩) n c2) p ∧ OwnB wr w.heap.size (.slice (some ⟨g3, 0, none⟩) n c3) p ∧ v.ownBlock ≠ some g2 ∧ v.ownBlock ≠ some g3 ∧ Upd [] w wr) (fun _ i _ => 100 - (intOf i).toNat)
      case atStart => exact ⟨0, by omega, rfl, by simpa using hA, hA, by simpa using AlB.refl hA, hB, hC, by simp [Value.ownBlock]; omega, by simp [Value.ownBlock]; omega, hU⟩
      case round =>
        clear hA hB hC hU hs
        obtain ⟨k, hk2, rfl, hV, hA, hAl, hB, hC, hv2, hv3, hU⟩ := hrel
        have hs := hU.size
        by_cases h : k < 100
        · have hll : (l ++ List.replicate k (68 : BitVec 8)).length ≤ 2000000 := by simp; omega
          go_wp2_with (first | (refine append_byte rfl _ _ rfl w.heap.size u7 _ rfl wr 68 rfl hV rfl (by omega) hs ?_; intro v2 w2 hO2 _ hU2 hK2))
          have e2 : (l ++ List.replicate k (68 : BitVec 8)) ++ [68] = l ++ List.replicate (k + 1) 68 := by
            rw [List.append_assoc, ← List.replicate_succ']
          obtain ⟨k1, k2⟩ := hK2.alias _ _ _ hA hAl
          rw [e2] at hO2 k2
          have q2 := (hB.lt g2 rfl).2
          have q3 := (hC.lt g3 rfl).2
          go_roundw
          case rel =>
            exact ⟨k + 1, by omega, by go_num, hO2, k1, k2, hB.upd hU2 (fun k hk hm => hv2 (by simp [Value.ownBlock] at hk; subst hk; simpa using hm)), hC.upd hU2 (fun k hk hm => hv3 (by simp [Value.ownBlock] at hk; subst hk; simpa using hm)),
              fun e => (hK2.block _ e).elim hv2 (fun e => by omega), fun e => (hK2.block _ e).elim hv3 (fun e => by omega), hU.row hU2 (fun g hg => (hV.lt g hg).1)⟩
          case measure => simp [intOf]; omega
        · obtain rfl : k = 100 := by omega
          obtain ⟨bv, cv, ev⟩ := hV.isSlice
          have hvl : (l ++ List.replicate 100 (68 : BitVec 8)).length = n + 100 := by rw [List.length_append, List.length_replicate, hln]
          rw [hvl] at ev
          subst ev
          have hgb : g1 ≠ g2 := hg.1
          have hln' : l.length ≤ 1000000 := by omega
          have hpl' : p.length ≤ 1000000 := by rw [HN.out]; omega
          have hp2 : p.length ≤ 281474976710656 := by omega
          clear hvl hV hAl hv2 hv3
          have HA := Lib.hid hA
          have HB := Lib.hid hB
          have HC := Lib.hid hC
          clear hA hB hC
          have hb1 := hlow
          have hb2 := (HB.out.lt g2 rfl).1
          go_wp2_with (first
            | (go_at_call 9; refine (same02 _ _ _ p p hO7.read (((HC.out.drew n5).upd hU6 (fun k hk hm => by simp [Value.ownBlock] at hk hm; omega)).upd0 hU7).read hp2 hp2).mono ?_; rintro e w8 ⟨rfl, n8, hw8⟩; rw [HP.out])
            | (go_at_call 9; refine (same02 _ _ _ p p HB.out.read HC.out.read hp2 hp2).mono ?_; rintro e w5 ⟨rfl, n5, hw5⟩; rw [HP.out])
            | (go_at_call 10; refine (rooms02 _ w.heap.size _ _ l p (HA.out.drew _) (HB.out.drew _) (fun g h1 h2 => by simp [Value.ownBlock] at h1 h2; omega) hln' hpl' hs).mono ?_; rintro e w6 ⟨rfl, hU6⟩)
            | (go_at_call 7; refine (H1.out _).mono ?_; rintro e w7 ⟨v7, rfl, hO7, hU7⟩))
          go_ret
          refine ⟨ret_eq (by simp), ?_⟩
          have k6 := (hU.drewN n5).trans' hU6 (by simp [Value.ownBlock]; omega)
          exact (k6.trans hU7).drewN _
end Go.Proofs.Ytdejiachopiaaaa
