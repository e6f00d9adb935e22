/-
  The law Sha512Apart: for every length it returns true and makes only new memory.
-/
import Derived.Test.YtdejiachopiaaaaPad512
import Derived.Test.YtdejiachopiaaaaSame
namespace Go.Proofs.Ytdejiachopiaaaa
open Go Go.RowKit Go.Proofs
set_option maxRecDepth 100000 in
set_option maxHeartbeats 3200000 in
theorem law_apart512 (w : World) (x : BitVec 64) : Calls Try.prog 5 #[U64 x] w fun e w' => e = .returned (.bool true) ∧ Upd [] w w' := by
  have hl : (pad512 x).length ≤ 144 ∧ 17 ≤ (pad512 x).length := by rw [pad512_length]; have := noughts512_lt x; omega
  obtain ⟨p, hp⟩ : ∃ p, pad512 x = p := ⟨_, rfl⟩
  have h1 := fun w => padof512 w x
  rw [hp] at hl h1
  obtain ⟨n, hn⟩ : ∃ n, p.length = n := ⟨_, rfl⟩
  have HN := Lib.hid hn
  rw [hn] at hl
  have hbp : (p == p) = true := by simp
  have H1 := Lib.hid h1
  have HP := Lib.hid hbp
  clear h1 hp hbp hn
  have hp2 : p.length ≤ 281474976710656 := by rw [HN.out]; omega
  go_enter Try.func5, Try.ntmps5
  go_upto_region 2 with (first | (go_at_call 12; refine (H1.out _).mono ?_; rintro e w1 ⟨v1, rfl, hO1, hU1⟩))
  obtain ⟨g1, c1, rfl, b1, t1, _, _⟩ := hO1.at (by rw [HN.out]; omega)
  have z1 := hU1.size
  rw [HN.out] at hO1 ⊢
  go_upto_region 3 with (fail)
  have hOe : OwnB (w1.alloc (.cells #[] 5)) w1.heap.size (.slice (some ⟨w1.heap.size, 0, none⟩) 0 0) [] :=
    ⟨rfl, .inr ⟨w1.heap.size, 0, #[], rfl, by omega, hget_new rfl, by simp, by simp [maxLen], rfl, rfl⟩⟩
  go_upto_region 4 with (first | (refine append_bytes rfl _ _ rfl w1.heap.size (.slice (some ⟨w1.heap.size, 0, none⟩) 0 0) [] rfl hOe g1 0 n c1 p rfl HN.out (hO1.alloc _).bytes (by simp; omega) (by simp) ?_; intro v2 w2 hO2 _ hU2 _))
  have hu2 : Upd [] w1 w2 := ((Upd.refl _ w1).alloc _).row hU2 (fun g hg => by simp [Value.ownBlock] at hg; omega)
  have z2 := hu2.size
  rw [List.nil_append] at hO2
  clear hOe hU2
  go_upto_region 5 with (first | (go_at_call 12; refine (H1.out _).mono ?_; rintro e w3 ⟨v3, rfl, hO3, hU3⟩))
  obtain ⟨g2, c2, rfl, b2, t2, _, _⟩ := hO2.at (by rw [HN.out]; omega)
  obtain ⟨g3, c3, rfl, b3, t3, _, _⟩ := hO3.at (by rw [HN.out]; omega)
  have z3 := hU3.size
  have hA := (hO1.upd0 hu2).upd0 hU3
  have hK := (hO2.upd0 hU3).mono (C := w.heap.size) (fun k hk => by simp [Value.ownBlock] at hk; omega)
  have hB := hO3.mono (C := w.heap.size) (fun k hk => by simp [Value.ownBlock] at hk; omega)
  have hU := (hU1.trans hu2).trans hU3
  have hg : g1 ≠ g2 ∧ g1 ≠ g3 ∧ g2 ≠ g3 := by omega
  rw [HN.out] at hK hB ⊢
  clear hO1 hO2 hO3 hU1 hu2 hU3 b1 b2 b3 t1 t2 t3 z1 z2 z3
  have hn1 : ¬ (n : Int) < 17 ∧ ¬ (144 : Int) < n := by omega
  go_upto_region 7 with (first | (go_at_call 11; refine (same03 _ _ _ p p hB.read hK.read hp2 hp2).mono ?_; rintro e wq ⟨rfl, nq, hwq⟩; rw [HP.out]))
  obtain ⟨w4, hw4⟩ : ∃ w4, World.drewN w3 nq = w4 := ⟨_, rfl⟩
  have hA : OwnB w4 w.heap.size (.slice (some ⟨g1, 0, none⟩) n c1) p := by rw [← hw4]; exact hA
  have hK : OwnB w4 w.heap.size (.slice (some ⟨g2, 0, none⟩) n c2) p := by rw [← hw4]; exact hK
  have hB : OwnB w4 w.heap.size (.slice (some ⟨g3, 0, none⟩) n c3) p := by rw [← hw4]; exact hB
  have hU : Upd [] w w4 := by rw [← hw4]; exact hU.drewN _
  rw [hw4]
  clear hw4 hwq hn1
  go_wp2
  have HX := Lib.hid (show ∀ (y : BitVec 8) k, k < n → (List.replicate k y ++ p.drop k).set k y = List.replicate (k + 1) y ++ p.drop (k + 1) from fun y k hk => by
    have hpn := HN.out
    rw [List.drop_eq_getElem_cons (i := k) (by omega), List.replicate_succ', List.append_assoc, List.set_append_right _ _ (by simp), List.length_replicate, Nat.sub_self, List.set_cons_zero]
    rfl)
  have HXl := Lib.hid (show ∀ (y : BitVec 8) k, k ≤ n → (List.replicate k y ++ p.drop k).length = n from fun y k hk => by
    have hpn := HN.out
    simp; omega)
  go_loopw [7] (fun i wr => ∃ k : Nat, k ≤ n ∧ i = .int .i64 k ∧ OwnB wr w.heap.size (.slice (some ⟨g1, 0, none⟩) n c1) (List.replicate k 1 ++ p.drop k) ∧ OwnB wr w.heap.size (.slice (some ⟨g3, 0, none⟩) n c3) (List.replicate k 2 ++ p.drop k) ∧
    OwnB wr w.heap.size (.slice (some ⟨g2, 0, none⟩) n c2) p ∧ Upd [] w wr) (fun i _ => n - (intOf i).toNat)
  case atStart => exact ⟨0, by omega, rfl, hA, hB, hK, hU⟩
  case round =>
    clear hA hB hK hU
    obtain ⟨k, hk, rfl, hA, hB, hK, hU⟩ := hrel
    have hb1 := (hA.lt g1 rfl).1
    have hb3 := (hB.lt g3 rfl).1
    by_cases h : k < n
    · have la := HXl.out 1 k hk
      have lb := HXl.out 2 k hk
      obtain ⟨ca, hca⟩ : ∃ c, wr.cell? ⟨g1, k, none⟩ = some (U8 c) := ⟨_, hA.cell k (by omega)⟩
      obtain ⟨cb, hcb⟩ : ∃ c, wr.cell? ⟨g3, k, none⟩ = some (U8 c) := ⟨_, hB.cell k (by omega)⟩
      have hfa := hA.frozen k (by omega)
      have hfb := hB.frozen k (by omega)
      have hA2 := hA.set k (by omega) 1
      rw [HX.out 1 k h] at hA2
      have hX1 : Upd [g1] wr (wr.setCell ⟨g1, k, none⟩ (U8 1)) := (Upd.refl _ wr).setCell _ _ (by simp)
      have hB1 := hB.upd hX1 (fun k hk => by simp [Value.ownBlock] at hk; simp; omega)
      have hK1 := hK.upd hX1 (fun k hk => by simp [Value.ownBlock] at hk; simp; omega)
      have hU1 := hU.trans' hX1 (by simp; omega)
      have hcb1 : (wr.setCell ⟨g1, k, none⟩ (U8 1)).cell? ⟨g3, k, none⟩ = some (U8 cb) := hX1.cell hcb (by simp; omega)
      have hfb1 := OwnB.frozen hB1 k (by omega)
      have hB2 := hB1.set k (by omega) 2
      rw [HX.out 2 k h] at hB2
      have hX2 : Upd [g3] (wr.setCell ⟨g1, k, none⟩ (U8 1)) ((wr.setCell ⟨g1, k, none⟩ (U8 1)).setCell ⟨g3, k, none⟩ (U8 2)) := (Upd.refl _ _).setCell _ _ (by simp)
      have hA3 := hA2.upd hX2 (fun k hk => by simp [Value.ownBlock] at hk; simp; omega)
      have hK3 := hK1.upd hX2 (fun k hk => by simp [Value.ownBlock] at hk; simp; omega)
      have hU3 := hU1.trans' hX2 (by simp; omega)
      have hM : n - (intOf (Value.int IntKind.i64 ((k : Int) + 1))).toNat < n - (intOf (Value.int IntKind.i64 (k : Int))).toNat := by simp [intOf]; omega
      have HM := Lib.hid hM
      have HH := Lib.hid (And.intro hA3 (And.intro hB2 (And.intro hK3 hU3)))
      have hi : (0 : Int) ≤ k ∧ (k : Int) < n := by omega
      have hcb' : (wr.setCell ⟨g1, k, none⟩ (Value.int IntKind.u8 1)).cell? ⟨g3, k, none⟩ = some (U8 cb) := hcb1
      have hfb' : (wr.setCell ⟨g1, k, none⟩ (Value.int IntKind.u8 1)).frozen? ⟨g3, k, none⟩ = false := hfb1
      clear la lb hA hB hK hU hA2 hB1 hK1 hU1 hB2 hA3 hK3 hU3 hX1 hX2 hM hcb1 hfb1 hcb hfb
      go_wp2
      exact ⟨⟨k + 1, by omega, by go_num, HH.out.1, HH.out.2.1, HH.out.2.2.1, HH.out.2.2.2⟩, HM.out⟩
    · obtain rfl : n = k := by omega
      have hpn := HN.out
      rw [List.drop_eq_nil_of_le (by omega), List.append_nil] at hA hB
      clear HX HXl hpn
      go_wp2
      go_loopw [8, 9] (fun v i wr => ∃ k : Nat, k ≤ 200 ∧ i = .int .i64 k ∧ OwnB wr w.heap.size v (List.replicate k 3) ∧ Keep wr w.heap.size [(.slice (some ⟨g1, 0, none⟩) n c1, List.replicate n 1), (.slice (some ⟨g3, 0, none⟩) n c3, List.replicate n 2), (.slice (some ⟨g2, 0, none⟩) n c2, p)] ∧
        Apart v [(.slice (some ⟨g1, 0, none⟩) n c1, List.replicate n 1), (.slice (some ⟨g3, 0, none⟩) n c3, List.replicate n 2), (.slice (some ⟨g2, 0, none⟩) n c2, p)] ∧ Upd [] w wr) (fun _ i _ => 200 - (intOf i).toNat)
      case atStart => exact ⟨0, by omega, rfl, OwnB.nil _ _, (((Keep.nil _ _).cons hK).cons hB).cons hA, Apart.none rfl, hU⟩
      case round =>
        clear hA hB hK hU hk h
        obtain ⟨k, hk, rfl, hV, hK, hAp, hU⟩ := hrel
        have hs := hU.size
        by_cases h : k < 200
        · have hll : (List.replicate k (3 : BitVec 8)).length ≤ 2000000 := by simp; omega
          go_wp2_with (first | (refine append_byte rfl _ _ rfl w.heap.size u8 _ rfl wr 3 rfl hV rfl (by omega) hs ?_; intro v2 w2 hO2 _ hU2 hK2))
          have e2 : (List.replicate k (3 : BitVec 8)) ++ [3] = List.replicate (k + 1) 3 := by rw [← List.replicate_succ']
          rw [e2] at hO2
          go_roundw
          case rel => exact ⟨k + 1, by omega, by go_num, hO2, hK.row hU2 hAp, hAp.grew hK hK2, hU.row hU2 (fun g hg => (hV.lt g hg).1)⟩
          case measure => simp [intOf]; omega
        · obtain rfl : k = 200 := by omega
          clear hk h
          obtain ⟨T, hT⟩ : ∃ T, List.replicate 200 (3 : BitVec 8) = T := ⟨_, rfl⟩
          have hTl : T.length = 200 := by rw [← hT, List.length_replicate]
          rw [hT] at hV
          have HTl := Lib.hid hTl
          obtain ⟨gt, ct, rfl, _, _, _, _⟩ := hV.at (by omega)
          rw [hTl] at hV hAp ⊢
          rw [show ((200 : Nat) : Int) = 200 from rfl]
          clear hT hTl
          have hAt : gt ≠ g1 ∧ gt ≠ g2 ∧ gt ≠ g3 := by
            refine ⟨fun e => hAp _ (List.mem_cons_self ..) g1 rfl (by rw [e]; rfl), fun e => hAp _ (List.mem_cons_of_mem _ (List.mem_cons_of_mem _ (List.mem_cons_self ..))) g2 rfl (by rw [e]; rfl), fun e => hAp _ (List.mem_cons_of_mem _ (List.mem_cons_self ..)) g3 rfl (by rw [e]; rfl)⟩
          have hA := hK _ (List.mem_cons_self ..)
          have hB := hK _ (List.mem_cons_of_mem _ (List.mem_cons_self ..))
          have hC := hK _ (List.mem_cons_of_mem _ (List.mem_cons_of_mem _ (List.mem_cons_self ..)))
          clear hK hAp
          go_wp2
          have hla : (List.replicate n (1 : BitVec 8)).length = n := List.length_replicate ..
          have hlb : (List.replicate n (2 : BitVec 8)).length = n := List.length_replicate ..
          obtain ⟨LA, hLA⟩ : ∃ L, List.replicate n (1 : BitVec 8) = L := ⟨_, rfl⟩
          obtain ⟨LB, hLB⟩ : ∃ L, List.replicate n (2 : BitVec 8) = L := ⟨_, rfl⟩
          rw [hLA] at hla hA
          rw [hLB] at hlb hB
          have HLA := Lib.hid hLA
          have HLB := Lib.hid hLB
          have Hla := Lib.hid hla
          have Hlb := Lib.hid hlb
          clear hLA hLB hla hlb
          go_loopw [10, 11] (fun v i wr => ∃ k : Nat, k ≤ 200 ∧ i = .int .i64 k ∧ OwnB wr w.heap.size v (LA ++ T.take k) ∧ OwnB wr w.heap.size (.slice (some ⟨g1, 0, none⟩) n c1) LA ∧ AlB (.slice (some ⟨g1, 0, none⟩) n c1) LA v (LA ++ T.take k) ∧
            Keep wr w.heap.size [(.slice (some ⟨g3, 0, none⟩) n c3, LB), (.slice (some ⟨g2, 0, none⟩) n c2, p), (.slice (some ⟨gt, 0, none⟩) 200 ct, T)] ∧ Apart v [(.slice (some ⟨g3, 0, none⟩) n c3, LB), (.slice (some ⟨g2, 0, none⟩) n c2, p), (.slice (some ⟨gt, 0, none⟩) 200 ct, T)] ∧ Upd [] w wr) (fun _ i _ => 200 - (intOf i).toNat)
          case atStart =>
            refine ⟨0, by omega, rfl, by simpa using hA, hA, by simpa using AlB.refl hA, (((Keep.nil _ _).cons hV).cons hC).cons hB, ?_, hU⟩
            intro r hr k hk he
            simp [Value.ownBlock] at he
            rcases List.mem_cons.1 hr with rfl | hr
            · simp [Value.ownBlock] at hk; omega
            rcases List.mem_cons.1 hr with rfl | hr
            · simp [Value.ownBlock] at hk; omega
            rcases List.mem_cons.1 hr with rfl | hr
            · simp [Value.ownBlock] at hk; omega
            cases hr
          case round =>
            clear hA hB hC hV hU hs
            obtain ⟨k, hk, rfl, hV, hA, hAl, hK, hAp, hU⟩ := hrel
            have hs := hU.size
            have hTt := hK _ (List.mem_cons_of_mem _ (List.mem_cons_of_mem _ (List.mem_cons_self ..)))
            by_cases h : k < 200
            · have hll : (LA ++ T.take k).length ≤ 2000000 := by rw [List.length_append, Hla.out, List.length_take]; omega
              have hc := hTt.cell k (by rw [HTl.out]; exact h)
              have e2 : (LA ++ T.take k) ++ [T[k]'(by rw [HTl.out]; exact h)] = LA ++ T.take (k + 1) := by
                rw [List.append_assoc, ← take_snoc' T k (by rw [HTl.out]; exact h)]
              obtain ⟨y, hy⟩ : ∃ y, T[k]'(by rw [HTl.out]; exact h) = y := ⟨_, rfl⟩
              rw [hy] at hc e2
              have hki : (0 : Int) ≤ k ∧ (k : Int) < 200 := by omega
              have HE := Lib.hid e2
              clear e2 hy
              go_wp2_with (first | (refine append_byte rfl _ _ rfl w.heap.size u10 _ rfl wr y rfl hV rfl (by omega) hs ?_; intro v2 w2 hO2 _ hU2 hK2))
              obtain ⟨k1, k2⟩ := hK2.alias _ _ _ hA hAl
              rw [HE.out] at hO2 k2
              go_roundw
              case rel => exact ⟨k + 1, by omega, by go_num, hO2, k1, k2, hK.row hU2 hAp, hAp.grew hK hK2, hU.row hU2 (fun g hg => (hV.lt g hg).1)⟩
              case measure => simp [intOf]; omega
            · obtain rfl : k = 200 := by omega
              rw [List.take_of_length_le (by rw [HTl.out]; omega)] at hV hAl
              obtain ⟨gg, cg, eg, _, _, _, _⟩ := hV.at (by rw [List.length_append, Hla.out]; omega)
              have hgl : (LA ++ T).length = n + 200 := by rw [List.length_append, Hla.out, HTl.out]
              rw [hgl] at eg
              subst eg
              clear hgl hk h
              have hgn3 : gg ≠ g3 ∧ gg ≠ g2 ∧ gg ≠ gt := by
                refine ⟨fun e => hAp _ (List.mem_cons_self ..) g3 rfl (by rw [e]; rfl), fun e => hAp _ (List.mem_cons_of_mem _ (List.mem_cons_self ..)) g2 rfl (by rw [e]; rfl), fun e => hAp _ (List.mem_cons_of_mem _ (List.mem_cons_of_mem _ (List.mem_cons_self ..))) gt rfl (by rw [e]; rfl)⟩
              have hB := hK _ (List.mem_cons_self ..)
              have hC := hK _ (List.mem_cons_of_mem _ (List.mem_cons_self ..))
              clear hK hAp hAl
              go_wp2
              go_loopw [12, 13] (fun v i wr => ∃ k : Nat, k ≤ 200 ∧ i = .int .i64 k ∧ OwnB wr w.heap.size v (LB ++ T.take k) ∧ OwnB wr w.heap.size (.slice (some ⟨g3, 0, none⟩) n c3) LB ∧ AlB (.slice (some ⟨g3, 0, none⟩) n c3) LB v (LB ++ T.take k) ∧
                Keep wr w.heap.size [(.slice (some ⟨gt, 0, none⟩) 200 ct, T), (.slice (some ⟨g1, 0, none⟩) n c1, LA), (.slice (some ⟨gg, 0, none⟩) (n + 200) cg, LA ++ T), (.slice (some ⟨g2, 0, none⟩) n c2, p)] ∧ Apart v [(.slice (some ⟨gt, 0, none⟩) 200 ct, T), (.slice (some ⟨g1, 0, none⟩) n c1, LA), (.slice (some ⟨gg, 0, none⟩) (n + 200) cg, LA ++ T), (.slice (some ⟨g2, 0, none⟩) n c2, p)] ∧ Upd [] w wr) (fun _ i _ => 200 - (intOf i).toNat)
              case atStart =>
                refine ⟨0, by omega, rfl, by simpa using hB, hB, by simpa using AlB.refl hB, ((((Keep.nil _ _).cons hC).cons hV).cons hA).cons hTt, ?_, hU⟩
                intro r hr k hk he
                simp [Value.ownBlock] at he
                rcases List.mem_cons.1 hr with rfl | hr
                · simp [Value.ownBlock] at hk; omega
                rcases List.mem_cons.1 hr with rfl | hr
                · simp [Value.ownBlock] at hk; omega
                rcases List.mem_cons.1 hr with rfl | hr
                · simp [Value.ownBlock] at hk; omega
                rcases List.mem_cons.1 hr with rfl | hr
                · simp [Value.ownBlock] at hk; omega
                cases hr
              case round =>
                clear hA hB hC hV hU hs hTt
                obtain ⟨k, hk, rfl, hV, hB, hAl, hK, hAp, hU⟩ := hrel
                have hs := hU.size
                have hTt := hK _ (List.mem_cons_self ..)
                by_cases h : k < 200
                · have hll : (LB ++ T.take k).length ≤ 2000000 := by rw [List.length_append, Hlb.out, List.length_take]; omega
                  have hc := hTt.cell k (by rw [HTl.out]; exact h)
                  have e2 : (LB ++ T.take k) ++ [T[k]'(by rw [HTl.out]; exact h)] = LB ++ T.take (k + 1) := by
                    rw [List.append_assoc, ← take_snoc' T k (by rw [HTl.out]; exact h)]
                  obtain ⟨y, hy⟩ : ∃ y, T[k]'(by rw [HTl.out]; exact h) = y := ⟨_, rfl⟩
                  rw [hy] at hc e2
                  have hki : (0 : Int) ≤ k ∧ (k : Int) < 200 := by omega
                  have HE := Lib.hid e2
                  clear e2 hy
                  go_wp2_with (first | (refine append_byte rfl _ _ rfl w.heap.size u12 _ rfl wr y rfl hV rfl (by omega) hs ?_; intro v2 w2 hO2 _ hU2 hK2))
                  obtain ⟨k1, k2⟩ := hK2.alias _ _ _ hB hAl
                  rw [HE.out] at hO2 k2
                  go_roundw
                  case rel => exact ⟨k + 1, by omega, by go_num, hO2, k1, k2, hK.row hU2 hAp, hAp.grew hK hK2, hU.row hU2 (fun g hg => (hV.lt g hg).1)⟩
                  case measure => simp [intOf]; omega
                · obtain rfl : k = 200 := by omega
                  rw [List.take_of_length_le (by rw [HTl.out]; omega)] at hV
                  obtain ⟨gh, ch, eh, _, _, _, _⟩ := hV.at (by rw [List.length_append, Hlb.out]; omega)
                  have hgl : (LB ++ T).length = n + 200 := by rw [List.length_append, Hlb.out, HTl.out]
                  rw [hgl] at eh
                  subst eh
                  have hA := hK _ (List.mem_cons_of_mem _ (List.mem_cons_self ..))
                  have hG := hK _ (List.mem_cons_of_mem _ (List.mem_cons_of_mem _ (List.mem_cons_self ..)))
                  have hC := hK _ (List.mem_cons_of_mem _ (List.mem_cons_of_mem _ (List.mem_cons_of_mem _ (List.mem_cons_self ..))))
                  clear hgl hk h hK hAp hAl
                  go_upto_region 28 with (first | (go_at_call 12; refine (H1.out _).mono ?_; rintro e w7 ⟨v7, rfl, hO7, hU7⟩))
                  have hA := hA.upd0 hU7
                  have hB := hB.upd0 hU7
                  have hG := hG.upd0 hU7
                  have hV := hV.upd0 hU7
                  have hC := hC.upd0 hU7
                  have hTt := hTt.upd0 hU7
                  have hU := hU.trans hU7
                  have hcA : ∀ k, k < n → w7.cell? ⟨g1, k, none⟩ = some (Value.int .u8 1) := fun k hk => by
                    rw [hA.cell k (by rw [Hla.out]; exact hk)]
                    have e := HLA.out
                    subst e
                    simp; rfl
                  have hcB : ∀ k, k < n → w7.cell? ⟨g3, k, none⟩ = some (Value.int .u8 2) := fun k hk => by
                    rw [hB.cell k (by rw [Hlb.out]; exact hk)]
                    have e := HLB.out
                    subst e
                    simp; rfl
                  have hrg : ∀ q m c, m = 200 → ReadB (w7.drewN q) (.slice (some ⟨gg, n, none⟩) m c) T := fun q m c e => by
                    subst e
                    have b := hG.bytes.drop n
                    rw [Nat.zero_add, List.drop_append_of_le_length (by rw [Hla.out]; exact Nat.le_refl _), List.drop_eq_nil_of_le (by rw [Hla.out]; exact Nat.le_refl _), List.nil_append] at b
                    exact .inr ⟨gg, n, c, by rw [HTl.out], b⟩
                  have hrh : ∀ q m c, m = 200 → ReadB (w7.drewN q) (.slice (some ⟨gh, n, none⟩) m c) T := fun q m c e => by
                    subst e
                    have b := hV.bytes.drop n
                    rw [Nat.zero_add, List.drop_append_of_le_length (by rw [Hlb.out]; exact Nat.le_refl _), List.drop_eq_nil_of_le (by rw [Hlb.out]; exact Nat.le_refl _), List.nil_append] at b
                    exact .inr ⟨gh, n, c, by rw [HTl.out], b⟩
                  have HCA := Lib.hid hcA
                  have HCB := Lib.hid hcB
                  have HRG := Lib.hid hrg
                  have HRH := Lib.hid hrh
                  have hr1 := hO7.read
                  have hr2 := hC.read
                  have hr3 : ∀ q, ReadB (w7.drewN q) (.slice (some ⟨gt, 0, none⟩) 200 ct) T := fun q => (hTt.drew q).read
                  have hb6 : n + 200 ≤ cg ∧ n + 200 ≤ ch := by
                    obtain ⟨_, c', e1, _, _, l1, _⟩ := hG.at (by rw [List.length_append, Hla.out]; omega)
                    obtain ⟨_, c'', e2, _, _, l2, _⟩ := hV.at (by rw [List.length_append, Hlb.out]; omega)
                    rw [List.length_append, Hla.out, HTl.out] at l1
                    rw [List.length_append, Hlb.out, HTl.out] at l2
                    injection e1 with _ _ e1
                    injection e2 with _ _ e2
                    omega
                  have hTT : (T == T) = true := by simp
                  have HTT := Lib.hid hTT
                  have hT2 : T.length ≤ 281474976710656 := by rw [HTl.out]; omega
                  clear hcA hcB hrg hrh hTT hA hB hG hV hC hTt hU7
                  go_wp2
                  go_loop [15] (fun i => ∃ k : Nat, k ≤ n ∧ i = .int .i64 k) (fun i => n - (intOf i).toNat)
                  case atStart => exact ⟨0, by omega, rfl⟩
                  case round =>
                    obtain ⟨k, hk, rfl⟩ := hrel
                    by_cases h : k < n
                    · have ca := HCA.out k h
                      have cb := HCB.out k h
                      have hki : (0 : Int) ≤ k ∧ (k : Int) < n := by omega
                      go_wp2
                      go_round
                      case rel => exact ⟨k + 1, by omega, by go_num⟩
                      case measure => simp [intOf]; omega
                    · obtain rfl : n = k := by omega
                      have hi6 : (0 : Int) ≤ n ∧ (n : Int) ≤ n + 200 := by omega
                      have hAll : ∀ (v u : Value) (q : Nat), (∃ m c, (v = .slice (some ⟨gg, n, none⟩) m c ∨ v = .slice (some ⟨gh, n, none⟩) m c) ∧ m = 200 ∧ u = .slice (some ⟨gt, 0, none⟩) 200 ct) ∨ (q = 0 ∧ v = v7 ∧ u = .slice (some ⟨g2, 0, none⟩) n c2) →
                          Calls Try.prog 11 #[v, u] (w7.drewN q) fun e w' => e = .returned (.bool true) ∧ ∃ m, w' = w7.drewN m := by
                        intro v u q hh
                        rcases hh with ⟨m, c, hv, rfl, rfl⟩ | ⟨rfl, rfl, rfl⟩
                        · refine (same03 _ _ _ T T (by rcases hv with rfl | rfl; exact HRG.out _ _ _ rfl; exact HRH.out _ _ _ rfl) (hr3 q) hT2 hT2).mono ?_
                          rintro e w' ⟨rfl, m2, rfl⟩
                          exact ⟨by rw [HTT.out], q + m2, World.drewN_drewN ..⟩
                        · refine (same03 _ _ _ p p hr1 hr2 hp2 hp2).mono ?_
                          rintro e w' ⟨rfl, m2, rfl⟩
                          exact ⟨by rw [HP.out], m2, rfl⟩
                      have HA := Lib.hid hAll
                      clear hAll
                      have hP0 : Calls Try.prog 11 #[v7, .slice (some ⟨g2, 0, none⟩) n c2] w7 fun e w' => e = .returned (.bool true) ∧ ∃ m, w' = w7.drewN m := HA.out v7 _ 0 (.inr ⟨rfl, rfl, rfl⟩)
                      have HP0 := Lib.hid hP0
                      clear hP0
                      go_upto_region 33 with (fail)
                      go_wp2_with fail
                      refine HP0.out.mono ?_
                      rintro e wq ⟨rfl, q1, rfl⟩
                      go_wp2_with fail
                      refine (HA.out _ _ _ (.inl ⟨_, _, .inl rfl, by omega, rfl⟩)).mono ?_
                      rintro e wq ⟨rfl, q2, rfl⟩
                      go_wp2_with fail
                      refine (HA.out _ _ _ (.inl ⟨_, _, .inr rfl, by omega, rfl⟩)).mono ?_
                      rintro e wq ⟨rfl, q3, rfl⟩
                      go_wp2_with fail
                      go_ret
                      exact ⟨ret_eq (by simp), hU.drewN _⟩
end Go.Proofs.Ytdejiachopiaaaa
