/-
  The law Sha512Sums: for every message it returns true and makes only new memory.
-/
import Derived.Test.YtdejiachopiaaabDoorRefSum512
import Derived.Test.YtdejiachopiaaabDoorSum512
import Derived.Test.YtdejiachopiaaabDoorRoomy
import Derived.Test.YtdejiachopiaaabDoorSame03
import Derived.Test.YtdejiachopiaaabDoorEqWide
import Derived.Test.YtdejiachopiaaabDoorCut
import Derived.Test.YtdejiachopiaaabDoorMid
import Derived.Deep.RegionHeld3
import Derived.Deep.RegionLawGrows
import Derived.Deep.DrawnRows
import Derived.Deep.CutBlock
namespace Go.Proofs.YtdejiachopiaaabDoor
open Go Go.RowKit Go.Proofs
attribute [local go_sem ↓] Go.wp_at_zero Go.wp_at_succ
@[go_sem high] theorem add_U8_lit {P : Program} (w : World) (t : TypeId) (x : BitVec 8) (n : Int) : (binOp .add t (U8 x) (.int .u8 n)).run P w = .ok (U8 (x + BitVec.ofInt 8 n)) w := by
  show Result.ok (Value.int .u8 (IntKind.u8.wrap _)) w = _; rw [int_u8_wrap, BitVec.ofInt_add, ofInt_toNat]
/-- append to an empty slice without room, as a step of a region that draws -/
theorem step_append_fresh {w : World} {ops : Array Oper} {o : Oper} {a : Act} {K : Act → World → Prop} {Q : Exit → Act → World → Prop} {E : Prop} (hgd : o.guard = none) (s x : Operand)
    (ho : o.op = .call { callee := .builtin .append, args := #[s, x], argTypes := #[25, 25] }) (z : Nat) (hs : a.eval s = .slice (some ⟨z, 0, none⟩) 0 0) (g p c : Nat) (news : List (BitVec 8)) (hx : a.eval x = .slice (some ⟨g, p, none⟩) news.length c)
    (hb : Bytes w g p news) (hpos : 0 < news.length) (hl : news.length ≤ 140737488355328) (hK : ∀ v' w', RdB w' v' news → Upd [] w w' → K (a.put o.dst v') w') :
    if Region.wanted o (yielded ops a.tmps) = true then Oper.wp Tryd.prog o a w K Q else E := by
  obtain ⟨i, hi, hz, hsz, hby⟩ := info_byte
  refine step_append_grows hgd s x 25 ho 5 i _ 1 1 Tryd.underlying25 hi hz hsz hby rfl (by omega) (some ⟨z, 0, none⟩) 0 0 [] hs (fun h => by cases h) rfl (fun b _ j u hj => by simp at hj) ⟨g, p, none⟩ news.length c (news.map U8) hx (by simp) ?_ (fun u hu => by obtain ⟨y, _, rfl⟩ := List.mem_map.1 hu; rfl) (by omega) (by simp only [maxLen]; omega) (by omega) ?_
  · intro j u hj
    rw [List.getElem?_map] at hj
    cases hq : news[j]? with
    | none => rw [hq] at hj; cases hj
    | some y =>
      rw [hq] at hj
      obtain ⟨hlt, rfl⟩ := List.getElem?_eq_some_iff.1 hq
      simp at hj
      subst hj
      rw [Addr.add_lit]
      exact hb j hlt
  · intro v' w' h1 h2
    refine hK v' w' (OwnB.rd (B := w.heap.size) (by unfold OwnB; rw [Nat.zero_add, List.nil_append] at h1; exact h1)) ((Upd.refl [] w).grown h2 (fun k hk => by cases hk))
theorem rd_drew {w : World} {v : Value} {l : List (BitVec 8)} (h : RdB w v l) : RdB w.drew v l := h
theorem rd_step {w w' : World} {v : Value} {l : List (BitVec 8)} (h : RdB w v l) (u : Upd [] w.drew w') : RdB w' v l := (rd_drew h).upd0 u
theorem rng_upd {w w' : World} {b o : Nat} {cs : List Value} (h : w.rangeAt b o cs) (u : Upd [] w w') : w'.rangeAt b o cs := fun j v hj => u.cell (h j v hj) (by simp)
theorem rng_drewN {w : World} {b o n : Nat} {cs : List Value} (h : w.rangeAt b o cs) : (w.drewN n).rangeAt b o cs := h
theorem rng_drew {w w' : World} {b o : Nat} {cs : List Value} (h : w.rangeAt b o cs) (u : Upd [] w.drew w') : w'.rangeAt b o cs := fun j v hj => u.cell (h j v hj) (by simp)
set_option maxRecDepth 100000 in
set_option maxHeartbeats 6400000 in
theorem law_sums512 (w : World) (v : Value) (m : List (BitVec 8)) (hv : RdB w v m) (hg : Gl512 w) (hf : GlFirst512 w) (hg3 : Gl3 w) (hf3 : GlFirst3 w) :
    Calls Tryd.prog 4 #[v] w fun e w' => e = .returned (.bool true) ∧ Upd [] w w' := by
  obtain ⟨A, c, rfl, hc1, hc2⟩ := hv.isSlice
  obtain ⟨n, hn⟩ : ∃ n, m.length = n := ⟨_, rfl⟩
  have HV := Lib.hid hv
  have HG := Lib.hid hg
  have HF := Lib.hid hf
  have HG3 := Lib.hid hg3
  have HF3 := Lib.hid hf3
  rw [hn] at hc1 ⊢
  have HN := Lib.hid hn
  clear hv hg hf hg3 hf3 hn
  by_cases hbig : 200000 < n
  · go_enter Tryd.func4, Tryd.ntmps4
    go_wp2
    go_ret
    exact ⟨rfl, Upd.refl _ _⟩
  · have hn2 : n ≤ 200000 := by omega
    obtain ⟨H, hH⟩ : ∃ H, sha512 m = H := ⟨_, rfl⟩
    have hHl : H.length = 64 := by rw [← hH]; exact sha512_length m
    have hs1 := fun w v h1 h3 h4 => sum512 w v m h1 (by have := HN.out; omega) h3 h4
    have hs2 := fun w v h1 h3 h4 => refsum512 w v m h1 (by have := HN.out; omega) h3 h4
    rw [hH] at hs1 hs2
    have S1 := Lib.hid hs1
    have S2 := Lib.hid hs2
    have hq1 := neq_wide H hHl
    have hq2 := eql_wide H hHl
    have hgd := guard_w64
    have hs : (Tryd.prog.info? 23).map (·.size) = some ((H.map U8).toArray).size := by simp only [List.size_toArray, List.length_map, hHl]; exact size_w64b
    have ho : (zrow8 64).size = ((H.map U8).toArray).size := by simp only [List.size_toArray, List.length_map, hHl, zrow8_size]
    have hal : ((H.map U8).toArray).all (·.oneCell') = true := by simp
    clear hs1 hs2 hH hbig
    go_enter Tryd.func4, Tryd.ntmps4
    go_upto_region 4 with (go_at_call 8; refine (roomy03 _ _ m (by have := HV.out; rwa [HN.out] at this) (by have := HN.out; omega)).mono ?_; rintro e w1 ⟨g, cap, rfl, hO1, hU1⟩)
    rw [HN.out] at hO1 ⊢
    have hgl := hO1.lt g rfl
    have hcap : n + 64 ≤ cap ∧ cap ≤ maxLen := by
      obtain ⟨_, _, e, _, _, h1, h2⟩ := hO1.at (by rw [room64_length]; omega)
      injection e with _ _ e3
      subst e3
      rw [room64_length, HN.out] at h1
      exact ⟨h1, h2⟩
    have hrd : RdB w1 (.slice (some ⟨g, 0, none⟩) (n + 64) cap) (room64 m) := by
      have := hO1.rd; exact this
    have HRD := Lib.hid hrd
    have HO1 := Lib.hid hO1
    have hrt : ∀ (w' : World) A, RdB w' (.slice A (n - 0) (cap - 0)) (((room64 m).take n).drop 0) → RdB w' (.slice A n cap) m := fun w' A h => by
      have := HN.out
      subst this
      simpa [room64] using h
    have HRT := Lib.hid hrt
    clear hrd hO1 hrt
    go_upto_region 5 with (first
      | (refine cut_bytes rfl _ none (some _) rfl (some ⟨g, 0, none⟩) (n + 64) cap (by rfl) (room64 m) HRD.out 0 n (.inl ⟨by rfl, rfl⟩) (.inr (by rfl)) (by omega) (by omega) ?_; intro B1 hB1 _)
      | (go_at_call 7; refine (S1.out _ _ (HRT.out _ _ hB1) (HG.out.upd hU1 (by simp)) (HF.out.upd hU1 (by simp))).mono ?_; rintro e w2 ⟨rfl, hU2⟩)
      | (refine wpList_store_row rfl 23 _ _ rfl _ (H.map U8).toArray rfl rfl 23 _ (hget_new rfl) hs ho hal ?_))
    go_simp
    obtain ⟨D, hD⟩ : ∃ D, w2.heap.size = D := ⟨_, rfl⟩
    generalize hw3 : World.setRow (World.alloc w2 _) _ _ = w3
    have h3 : w3.heap[D]? = some (.cells (H.map U8).toArray 23 (0, 0)) := by rw [← hw3, hD]; exact setRow_heap _ _ _ _ 23 (0, 0) (hget_new hD.symm)
    have hU3 : Upd [] w1 w3 := by rw [← hw3]; exact (hU2.alloc _).setRow _ _ (by have := hU2.size; omega)
    rw [hD]
    have hrg : w3.rangeAt D 0 (H.map U8) := range_of_row h3 0 _ ⟨[], [], by simp, rfl⟩
    have hU : Upd [] w w3 := hU1.trans hU3
    clear hw3 hD h3 hU2 hB1 hs ho hal
    have hu23 := Tryd.underlying23
    have hi23 : (Tryd.prog.info? 23).map (·.size) = some (H.map U8).length := by rw [List.length_map, hHl]; exact size_w64b
    have hl23 : (H.map U8).length = 64 := by rw [List.length_map, hHl]
    have ho23 : ∀ v ∈ H.map U8, v.oneCell' = true := fun v hv => by obtain ⟨y, _, rfl⟩ := List.mem_map.1 hv; rfl
    have hsame : (room64 m == room64 m) = true := by simp
    by_cases hn0 : n = 0
    · have hz : ((n : Int) == 0) = true := by rw [beq_iff_eq]; omega
      have HZ := Lib.hid hn0
      clear hn0
      go_region_held3 (fun w' => w'.rangeAt D 0 (H.map U8)) (first | go_keep_ranges | exact rng_upd (by assumption) (by assumption) | exact rng_drew (by assumption) (by assumption) | exact rng_drewN (by assumption)) (first
        | (go_at_call 9; refine (S2.out _ _ (by have := (HV.out.upd0 hU.drew); rw [HN.out] at this; exact this) (HG3.out.upd hU.drew (by simp)) (HF3.out.upd hU.drew (by simp))).mono ?_; rintro e w4 ⟨rfl, hU4⟩)
        | (go_at_call 8; refine (roomy03 _ _ m (by have := (HV.out.upd0 hU.drew).upd0 hU4; rw [HN.out] at this; exact this) (by have := HN.out; omega)).mono ?_; rintro e w5 ⟨g2, cap2, rfl, hO5, hU5⟩; rw [HN.out] at hO5 ⊢)
        | (go_at_call 10; refine (same03 _ _ _ (room64 m) (room64 m) ((((HRD.out.upd0 hU3.drew).upd0 hU4).upd0 hU5).readPos (by rw [room64_length]; omega)) (hO5.read) (by rw [room64_length, HN.out]; omega) (by rw [room64_length, HN.out]; omega)).mono ?_; rintro e w6 ⟨rfl, q6, rfl⟩))
      obtain ⟨wz, hwz⟩ : ∃ wz, w5.drewN q6 = wz := ⟨_, rfl⟩
      have hUz3 : Upd [] w3 wz := by rw [← hwz]; exact (((Upd.refl [] w3).drew.trans hU4).trans hU5).drewN q6
      have hUz : Upd [] w wz := hU.trans hUz3
      have hrgz := rng_upd hrg hUz3
      have hrdz := (HRD.out.upd0 hU3).upd0 hUz3
      have HRDZ := Lib.hid hrdz
      have HUZ := Lib.hid hUz
      have hozz := (HO1.out.upd0 hU3).upd0 hUz3
      have HOZ := Lib.hid hozz
      rw [hwz]
      clear hwz hrg hU hU3 hU4 hU5 hO5 hUz3 hrdz hozz
      go_wp2
      go_region_held3 (fun w' => w'.rangeAt D 0 (H.map U8)) (first | go_keep_ranges | exact rng_upd (by assumption) (by assumption) | exact rng_drew (by assumption) (by assumption) | exact rng_drewN (by assumption)) (first
        | (go_at_call 9; refine (S2.out _ _ (by have := (HV.out.upd0 HUZ.out.drew); rw [HN.out] at this; exact this) (HG3.out.upd HUZ.out.drew (by simp)) (HF3.out.upd HUZ.out.drew (by simp))).mono ?_; rintro e w7 ⟨rfl, hU7⟩)
        | (go_at_call 8; refine (roomy03 _ _ m (by have := (HV.out.upd0 HUZ.out.drew).upd0 hU7; rw [HN.out] at this; exact this) (by have := HN.out; omega)).mono ?_; rintro e w8 ⟨g3, cap3, rfl, hO8, hU8⟩; rw [HN.out] at hO8 ⊢)
        | (go_at_call 10; refine (same03 _ _ _ (room64 m) (room64 m) ((((HRDZ.out.upd0 (Upd.refl [] _).drew).upd0 hU7).upd0 hU8).readPos (by rw [room64_length]; omega)) (hO8.read) (by rw [room64_length, HN.out]; omega) (by rw [room64_length, HN.out]; omega)).mono ?_; rintro e w9 ⟨rfl, q9, rfl⟩))
      go_wp2
      go_ret
      exact ⟨rfl, ((HUZ.out.drew.trans hU7).trans hU8).drewN q9⟩
    · have hz : ((n : Int) == 0) = false := by rw [beq_eq_false_iff_ne]; omega
      go_region_held3 (fun w' => w'.rangeAt D 0 (H.map U8)) (first | go_keep_ranges | exact rng_upd (by assumption) (by assumption) | exact rng_drew (by assumption) (by assumption) | exact rng_drewN (by assumption)) (first
        | (go_at_call 9; refine (S2.out _ _ (by have := (HV.out.upd0 hU.drew); rw [HN.out] at this; exact this) (HG3.out.upd hU.drew (by simp)) (HF3.out.upd hU.drew (by simp))).mono ?_; rintro e w4 ⟨rfl, hU4⟩)
        | (go_at_call 8; refine (roomy03 _ _ m (by have := (HV.out.upd0 hU.drew).upd0 hU4; rw [HN.out] at this; exact this) (by have := HN.out; omega)).mono ?_; rintro e w5 ⟨g2, cap2, rfl, hO5, hU5⟩; rw [HN.out] at hO5 ⊢)
        | (go_at_call 10; refine (same03 _ _ _ (room64 m) (room64 m) ((((HRD.out.upd0 hU3.drew).upd0 hU4).upd0 hU5).readPos (by rw [room64_length]; omega)) (hO5.read) (by rw [room64_length, HN.out]; omega) (by rw [room64_length, HN.out]; omega)).mono ?_; rintro e w6 ⟨rfl, q6, rfl⟩))
      obtain ⟨wz, hwz⟩ : ∃ wz, w5.drewN q6 = wz := ⟨_, rfl⟩
      have hUz3 : Upd [] w3 wz := by rw [← hwz]; exact (((Upd.refl [] w3).drew.trans hU4).trans hU5).drewN q6
      have hUz : Upd [] w wz := hU.trans hUz3
      have hrgz := rng_upd hrg hUz3
      have hrdz := (HRD.out.upd0 hU3).upd0 hUz3
      have HRDZ := Lib.hid hrdz
      have HUZ := Lib.hid hUz
      have hozz := (HO1.out.upd0 hU3).upd0 hUz3
      have HOZ := Lib.hid hozz
      rw [hwz]
      clear hwz hrg hU hU3 hU4 hU5 hO5 hUz3 hrdz hozz
      obtain ⟨h, hh⟩ : ∃ h, n / 2 = h := ⟨_, rfl⟩
      have hhi : (n : Int) / 2 = (h : Int) := by omega
      have hhn : h < n := by omega
      have hhm : h < m.length := by have := HN.out; omega
      have hhr : h < (room64 m).length := by rw [room64_length]; omega
      obtain ⟨y, hy⟩ : ∃ y, (room64 m)[h] = y := ⟨_, rfl⟩
      have hc0 : wz.cell? ⟨g, h, none⟩ = some (U8 y) := by rw [← hy]; exact OwnB.cell HOZ.out h hhr
      have hf0 := OwnB.frozen HOZ.out h hhr
      have hset := OwnB.set HOZ.out h hhr (y + 85#8)
      obtain ⟨M, hM⟩ : ∃ M, m.set h (y + 85#8) = M := ⟨_, rfl⟩
      have hMl : M.length = n := by rw [← hM, List.length_set]; exact HN.out
      have hMr : (room64 m).set h (y + 85#8) = room64 M := by rw [room64, room64, List.set_append_left _ _ hhm, hM]
      rw [hMr] at hset
      have HSET := Lib.hid hset
      have hhI : (h : Int) < (n : Int) := by omega
      have HUY := Lib.hid (HUZ.out.setCell ⟨g, h, none⟩ (U8 (y + 85#8)) (by simp; omega))
      clear hh hy hset hM hMr
      go_upto_region 8 with (fail)
      obtain ⟨wy, hwy⟩ : ∃ wy, wz.setCell ⟨g, h, none⟩ (U8 (y + 85#8)) = wy := ⟨_, rfl⟩
      obtain ⟨H2, hH2⟩ : ∃ H, sha512 M = H := ⟨_, rfl⟩
      have hHl2 : H2.length = 64 := by rw [← hH2]; exact sha512_length M
      have ht1 : ∀ w', Upd [] wy w' → Calls Tryd.prog 7 #[.slice (some ⟨g, 0, none⟩) n cap] w' fun e w'' => e = .returned (.agg (H2.map U8).toArray) ∧ Upd [] wy w'' ∧ Upd [] w' w'' := fun w' hu => by
        have h1 : RdB w' (.slice (some ⟨g, 0, none⟩) n cap) M := by
          have := rd_room (HSET.out)
          rw [hMl] at this
          exact (hwy ▸ this).upd0 hu
        have h2 := sum512 w' _ M h1 (by omega) (((hwy ▸ HG.out.upd HUY.out (by simp)) : Gl512 wy).upd hu (by simp)) (((hwy ▸ HF.out.upd HUY.out (by simp)) : GlFirst512 wy).upd hu (by simp))
        rw [hH2] at h2
        exact h2.mono fun e w'' ⟨a, b⟩ => ⟨a, hu.trans b, b⟩
      have ht2 : ∀ w' v', RdB w' v' M → Upd [] wy w' → Calls Tryd.prog 9 #[v'] w' fun e w'' => e = .returned (.agg (H2.map U8).toArray) ∧ Upd [] wy w'' ∧ Upd [] w' w'' := fun w' v' hr hu => by
        have h2 := refsum512 w' v' M hr (by omega) (((hwy ▸ HG3.out.upd HUY.out (by simp)) : Gl3 wy).upd hu (by simp)) (((hwy ▸ HF3.out.upd HUY.out (by simp)) : GlFirst3 wy).upd hu (by simp))
        rw [hH2] at h2
        exact h2.mono fun e w'' ⟨a, b⟩ => ⟨a, hu.trans b, b⟩
      have ht0 : ∀ w', Upd [] wy w' → Bytes w' g 0 M := fun w' hu => by
        have h1 : Bytes wy g 0 (room64 M) := hwy ▸ HSET.out.bytes
        have h2 := (h1.take M.length).upd hu (by simp)
        rwa [room64, List.take_left' rfl] at h2
      have hUy : Upd [] w wy := hwy ▸ HUY.out
      have T0 := Lib.hid ht0
      have T1 := Lib.hid ht1
      have T2 := Lib.hid ht2
      have hq3 := eql_wide H2 hHl2
      have hcapI : (n : Int) ≤ (cap : Int) := by omega
      rw [hwy]
      clear hwy ht0 ht1 ht2 hH2
      go_region_held3 (fun w' => Upd [] wy w') (first | assumption | exact (Upd.refl _ _).drew | exact Upd.drew (by assumption) | exact Upd.alloc (by assumption) _ | exact Upd.alloc (Upd.drew (by assumption)) _ | exact Upd.alloc (Upd.refl _ _).drew _) (first
        | (go_at_call 7; refine (T1.out _ (by first | assumption | exact Upd.drew (by assumption) | exact Upd.refl _ _ | exact (Upd.refl _ _).drew)).mono ?_; rintro e wq ⟨rfl, hq1, hq2⟩)
        | (go_at_call 9; refine (T2.out _ _ (by first | assumption | exact rd_drew (by assumption) | exact rd_step (by assumption) (by assumption) | exact rd_drew (rd_step (by assumption) (by assumption)) | exact RdB.upd0 (by assumption) (by assumption)) (by first | assumption | exact Upd.drew (by assumption))).mono ?_; rintro e wq ⟨rfl, hq1, hq2⟩)
        | ((refine step_append_fresh rfl _ _ (by rfl) _ (by rfl) g 0 cap M (by rw [hMl]; rfl) (T0.out _ (by first | assumption | exact Upd.drew (by assumption))) (by omega) (by omega) ?_; intro va wa hva hua; have hqa := Upd.trans (show Upd [] wy _ by first | assumption | exact Upd.drew (by assumption)) hua)))
      all_goals (go_wp2; go_ret; exact ⟨rfl, hUy.trans (by assumption)⟩)
end Go.Proofs.YtdejiachopiaaabDoor
