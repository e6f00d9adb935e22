/-
  cmp.Or of two ints; marks and seals, compared.
-/
import Derived.Test.YtjoliagnhmfdiaaCmp
import Derived.Test.YtjoliagnhmfdiaaEq
import Derived.Test.YtjoliagnhmfdiaaHoist
namespace Go.Proofs.Ytjoliagnhmfdiaa
open Go Go.RowKit Go.Proofs
set_option maxRecDepth 100000 in
theorem or2_ (w : World) (g : Nat) (a b : Int) (T : TypeId) (fr : Nat × Nat) (hh : w.heap[g]? = some (.cells #[.int .i64 a, .int .i64 b] T fr)) :
    Calls Try.prog 20 #[.slice (some ⟨g, 0, none⟩) 2 2] w fun e w' => e = .returned (.int .i64 (if a = 0 then b else a)) ∧ w = w' := by
  have h0 : w.cell? ⟨g, 0, none⟩ = some (.int .i64 a) := by rw [cell_of_row _ _ _ _ _ _ hh]; rfl
  have h1 : w.cell? ⟨g, 1, none⟩ = some (.int .i64 b) := by rw [cell_of_row _ _ _ _ _ _ hh]; rfl
  clear hh
  by_cases ha : a = 0
  · subst ha
    by_cases hb : b = 0
    · subst hb
      go_enter Try.func20, Try.ntmps20
      go_wp2
      go_loopw [8] (fun iv wr => ∃ k : Nat, k ≤ 2 ∧ iv = .int .i64 k ∧ wr = w) (fun iv _ => 2 - (intOf iv).toNat)
      case atStart => exact ⟨0, by omega, rfl, rfl⟩
      case round =>
        obtain ⟨k, hk, rfl, rfl⟩ := hrel
        obtain rfl | rfl | rfl : k = 0 ∨ k = 1 ∨ k = 2 := by omega
        · go_wp2
          go_roundw
          case rel => exact ⟨1, by omega, by first | rfl | trivial, by first | rfl | trivial⟩
          case measure => simp [intOf]
        · go_wp2
          go_roundw
          case rel => exact ⟨2, by omega, by first | rfl | trivial, by first | rfl | trivial⟩
          case measure => simp [intOf]
        · go_wp2
          go_ret
          exact ⟨rfl, rfl⟩
    · have hb' : (b != 0) = true := by simpa using hb
      rw [if_pos rfl]
      go_enter Try.func20, Try.ntmps20
      go_wp2
      go_loopw [8] (fun iv wr => ∃ k : Nat, k ≤ 1 ∧ iv = .int .i64 k ∧ wr = w) (fun iv _ => 2 - (intOf iv).toNat)
      case atStart => exact ⟨0, by omega, rfl, rfl⟩
      case round =>
        obtain ⟨k, hk, rfl, rfl⟩ := hrel
        obtain rfl | rfl : k = 0 ∨ k = 1 := by omega
        · go_wp2
          go_roundw
          case rel => exact ⟨1, by omega, by first | rfl | trivial, by first | rfl | trivial⟩
          case measure => simp [intOf]
        · go_wp2
          go_ret
          exact ⟨rfl, rfl⟩
  · have ha' : (a != 0) = true := by simpa using ha
    rw [if_neg ha]
    go_enter Try.func20, Try.ntmps20
    go_wp2
    go_loopw [8] (fun iv wr => iv = .int .i64 0 ∧ wr = w) (fun iv _ => 2 - (intOf iv).toNat)
    case atStart => exact ⟨rfl, rfl⟩
    case round =>
      obtain ⟨rfl, rfl⟩ := hrel
      go_wp2
      go_ret
      exact ⟨rfl, rfl⟩
/-- a mark's cells -/
def markC (i : Int) (v : List (BitVec 8)) : List Value := .int .i64 i :: v.map U8
def cmpM (i : Int) (v : List (BitVec 8)) (j : Int) (u : List (BitVec 8)) : Int := if cmpI i j = 0 then cmpB v u else cmpI i j
theorem bytes_in {w : World} {g o : Nat} {T : TypeId} {fr : Nat × Nat} {cs : List Value} (h : w.heap[g]? = some (.cells cs.toArray T fr)) (l : List (BitVec 8)) (hc : ∃ a r, cs = a ++ l.map U8 ++ r ∧ a.length = o) : Bytes w g o l := by
  have hr := range_of_row h o (l.map U8) hc
  intro i hi
  have := hr i (U8 l[i]) (by simp [hi])
  exact this
theorem rd_in {w : World} {g o n : Nat} {T : TypeId} {fr : Nat × Nat} {cs : List Value} (h : w.heap[g]? = some (.cells cs.toArray T fr)) (l : List (BitVec 8)) (hn : l.length = n) (hm : n ≤ maxLen) (hc : ∃ a r, cs = a ++ l.map U8 ++ r ∧ a.length = o) : RdB w (.slice (some ⟨g, o, none⟩) n n) l := by
  subst hn
  exact RdB.mk (Nat.le_refl _) hm (bytes_in h l hc)
theorem wpQuiet_valK {P : Program} {ops : Array Oper} {C : World → Prop} {Q : Act → Prop} {a : Act} {o : Oper} {rest : List Oper} {v : Value} (hw : Region.wanted o (yielded ops a.tmps) = true) (h : ∀ w, C w → o.quietAt P a C w v)
    (hn : ∀ K : Act → Prop, (∀ a, wpQuiet P ops C Q rest a → K a) → K (a.put o.dst v)) : wpQuiet P ops C Q (o :: rest) a := wpQuiet_val hw h (hn _ fun _ h => h)
theorem quiet_of_yields {P : Program} {C : World → Prop} {a : Act} {o : Oper} {v : Value} (h : ∀ w, C w → (execOp a.eval o).run P w = .ok (.value v) w) : ∀ w, C w → o.quietAt P a C w v := by
  intro w hw
  unfold Oper.quietAt
  rw [h w hw]
  exact ⟨rfl, rfl⟩
theorem size_int1 : (Try.prog.info? 3).map (·.size) = some 1 := by kernel_rfl
theorem info_int : ∃ i, Try.prog.info? 3 = some i ∧ i.zero = some (.int .i64 0) ∧ i.size = 1 := by
  have h : (Try.prog.info? 3).map (fun i => (i.zero, i.size)) = some (some (.int .i64 0), 1) := by kernel_rfl
  cases hq : Try.prog.info? 3 with
  | none => rw [hq] at h; cases h
  | some i =>
    rw [hq] at h
    simp only [Option.map_some, Option.some.injEq, Prod.mk.injEq] at h
    exact ⟨i, rfl, h.1, h.2⟩
set_option maxRecDepth 100000 in
set_option maxHeartbeats 1600000 in
theorem mcompare_ (w : World) (i j : Int) (v u : List (BitVec 8)) (hv : v.length = 32) (hu : u.length = 32) :
    Calls Try.prog 13 #[.agg (markC i v).toArray, .agg (markC j u).toArray] w fun e w' => e = .returned (.int .i64 (cmpM i v j u)) ∧ Upd [] w w' := by
  have HV := Lib.hid hv
  have HU := Lib.hid hu
  have HM : Hid (cmpM i v j u = if cmpI i j = 0 then cmpB v u else cmpI i j) := rfl
  obtain ⟨M, hM⟩ : ∃ M, cmpM i v j u = M := ⟨_, rfl⟩
  rw [hM] at HM ⊢
  obtain ⟨cv, hcv⟩ : ∃ c, (markC i v).toArray = c := ⟨_, rfl⟩
  obtain ⟨cu, hcu⟩ : ∃ c, (markC j u).toArray = c := ⟨_, rfl⟩
  rw [hcv, hcu]
  have HCV := Lib.hid hcv
  have HCU := Lib.hid hcu
  clear hv hu hM hcv hcu
  go_enter Try.func13, Try.ntmps13
  go_wp2_with (with_reducible refine arm_box (by with_unfolding_all exact rfl) ?_)
  intro b2 w2 hb2 k2 hU2 hz2
  change w2.heap[b2]? = some (.cells cv 42 (0, 0)) at k2
  go_wp2_with (with_reducible refine arm_box (by with_unfolding_all exact rfl) ?_)
  intro b3 w3 hb3 k3 hU3 hz3
  change w3.heap[b3]? = some (.cells cu 42 (0, 0)) at k3
  have k2' := hU3.heap k2 (by simp)
  rw [← HCV.out] at k2'
  rw [← HCU.out] at k3
  have hV3 := hU2.trans hU3
  have HQ2 : Hid (∀ W, Upd [] w3 W → W.cell? ⟨b2, 0, none⟩ = some (.int .i64 i)) := fun W hW => by rw [cell_of_row W _ _ _ _ _ (hW.heap k2' (by simp))]; rfl
  have HQ3 : Hid (∀ W, Upd [] w3 W → W.cell? ⟨b3, 0, none⟩ = some (.int .i64 j)) := fun W hW => by rw [cell_of_row W _ _ _ _ _ (hW.heap k3 (by simp))]; rfl
  have HB : Hid (∀ W, Upd [] w3 W → Calls Try.prog 22 #[.slice (some ⟨b2, 1, none⟩) 32 32, .slice (some ⟨b3, 1, none⟩) 32 32] W fun e w' => e = .returned (.int .i64 (cmpB v u)) ∧ W = w') := fun W hW =>
    bcompare_ W _ _ v u (rd_in (hW.heap k2' (by simp)) v HV.out (by simp [maxLen]) ⟨[.int .i64 i], [], by simp [markC], rfl⟩) (rd_in (hW.heap k3 (by simp)) u HU.out (by simp [maxLen]) ⟨[.int .i64 j], [], by simp [markC], rfl⟩)
  have HI : Hid (∀ W, Calls Try.prog 21 #[.int .i64 i, .int .i64 j] W fun e w' => e = .returned (.int .i64 (cmpI i j)) ∧ W = w') := fun W => icompare_ W i j
  have HV3 := Lib.hid hV3
  clear hb2 k2 hU2 hz2 hb3 k3 hU3 hz3 k2' hV3
  go_wp2_with (fail)
  refine wp_region_quiet_tail 10 (Upd [] w3) (by kernel_rfl) (by kernel_rfl) (Upd.refl _ _).drew ?_
  simp only [List.take_succ_cons, List.take_zero, List.drop_succ_cons, List.drop_zero]
  repeat (first
    | (refine wpQuiet_valK rfl (quiet_of_yields (yields_cell (p := ⟨b2, 0, none⟩) rfl HQ2.out Try.underlying3 rfl)) (fun K hK => ?_); go_simp; refine hK _ ?_; clear hK K)
    | (refine wpQuiet_valK rfl (quiet_of_yields (yields_cell (p := ⟨b3, 0, none⟩) rfl HQ3.out Try.underlying3 rfl)) (fun K hK => ?_); go_simp; refine hK _ ?_; clear hK K)
    | go_big_quiet_step ((intro hw2; first
        | rfl
        | ((with_reducible refine (HB.out _ hw2).mono ?_); exact fun e w' h => ⟨h.1, h.2 ▸ hw2⟩)
        | ((with_reducible refine (HI.out _).mono ?_); exact fun e w' h => ⟨h.1, h.2 ▸ hw2⟩)
        )))
  refine wpQuiet_nil ?_
  intro w15 hU15
  obtain ⟨ii, hii, hiz, his⟩ := info_int
  go_wp2_with (with_reducible refine arm_bs2 Try.underlying68 hii his hiz rfl (by with_unfolding_all exact rfl) (by with_unfolding_all exact rfl) (by with_unfolding_all exact rfl) (by with_unfolding_all exact rfl) ?_)
  intro g16 w16 hg16 k16 hU16
  change w16.heap[g16]? = some (.cells #[.int .i64 (cmpI i j), .int .i64 (cmpB v u)] 3 (0, 0)) at k16
  go_wp2_with (fail)
  have ho := or2_ w16 g16 _ _ _ _ k16
  rw [← HM.out] at ho
  with_reducible refine ho.mono ?_
  rintro e w17 ⟨rfl, rfl⟩
  go_wp2_with (fail)
  go_ret
  exact ⟨rfl, (HV3.out.trans hU15).trans hU16⟩
end Go.Proofs.Ytjoliagnhmfdiaa
