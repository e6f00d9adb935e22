/-
  The law MerkleTrees: two trees that grow beside one another.
-/
import Derived.Test.YtdfoffheolbokaaDoorTreeAll
import Derived.Test.YtdfoffheolbokaaDoorRefRoot
import Derived.Test.YtdfoffheolbokaaDoorOpenSteps
import Derived.Test.YtdfoffheolbokaaDoorEqHash
namespace Go.Proofs.YtdfoffheolbokaaDoor
open Go Go.RowKit Go.Proofs
theorem Grown.of {v v' : Value} {k : Nat} (h : v'.ownBlock = v.ownBlock ∨ v'.ownBlock = some k) : v'.ownBlock = v.ownBlock ∨ ∃ j, v'.ownBlock = some j ∧ k ≤ j := by
  rcases h with h | h
  · exact .inl h
  · exact .inr ⟨_, h, Nat.le_refl _⟩
theorem Sep.none (n c : Nat) (b : Value) : Sep (.slice none n c) b := fun k h => by cases h
set_option maxRecDepth 100000 in
set_option maxHeartbeats 25600000 in
theorem law_trees16 (w : World) (v : Value) (os : List (H8 × Bool)) (hv : RdT w v os) (hg : Gl256 w) (hf : GlFirst256 w) :
    Calls Tryd.prog 3 #[v] w fun e w' => e = .returned (.bool true) ∧ Upd [] w w' := by
  obtain ⟨hol, A, c, e, hA⟩ := hv
  obtain ⟨n, hn⟩ : ∃ n, os.length = n := ⟨_, rfl⟩
  rw [hn] at e
  by_cases hbig : 200 < n
  · have h1 : (n : Int) > 200 := by omega
    rw [e]
    clear hg hf hn e hbig hA hol
    go_enter Tryd.func3, Tryd.ntmps3
    go_wp2_with (fail)
    go_ret
    exact ⟨rfl, Upd.refl _ w⟩
  have hn2 : (n : Int) ≤ 200 := by omega
  have hb1 : decide ((n : Int) > 200) = false := by simp; omega
  have HNW : Hid (∀ W, Calls Tryd.prog 11 #[] W fun e w' => ∃ b, e = .returned (.pointer (some ⟨b, 0, none⟩)) ∧ b = W.heap.size ∧ TreeAt w' b (.slice none 0 0) [] ∧ Upd [] W w') := new_
  have hgl := gl256_lt hg
  have hfl := hf.lt
  have HTR : Hid (∀ (W : World) (bt : Nat) (pv : Value) (l : List H8), l.length ≤ 200 → Upd [] w W → TreeAt W bt pv l → Calls Tryd.prog 13 #[.pointer (some ⟨bt, 0, none⟩)] W fun e w' => e = .returned (.agg ((rootOf l).map U8).toArray) ∧ Upd [] W w') := fun W bt pv l hl hW hT => troot_ W bt pv l hT (by omega) (hg.upd hW (by simp)) (hf.upd hW (by simp))
  have HTA : Hid (∀ (W : World) (bt : Nat) (pv : Value) (l : List H8) (x : H8), l.length ≤ 200 → w.heap.size ≤ bt → x.length = 32 → Upd [] w W → TreeAt W bt pv l → Calls Tryd.prog 15 #[.pointer (some ⟨bt, 0, none⟩), .agg (x.map U8).toArray] W fun e w' => Appended W bt pv l x e w') := fun W bt pv l x hl hb hx hW hT => tappend_ W bt pv l x hT hx (by omega) (by omega) (by omega) (hg.upd hW (by simp)) (hf.upd hW (by simp))
  have HEL : Hid (∀ (i : Nat), i < n → ∃ (g p : Nat) (x : H8) (b : Bool), A = some ⟨g, p, none⟩ ∧ x.length = 32 ∧ w.rangeAt g (p + i * 33) (x.map U8) ∧ w.cell? ⟨g, p + i * 33 + 32, none⟩ = some (.bool b)) := fun i hi => by
    obtain ⟨g, p, e1, h1⟩ := hA (by omega)
    obtain ⟨h2, h3⟩ := h1 i (by omega)
    exact ⟨g, p, _, _, e1, hol _ (List.getElem_mem _), h2, h3⟩
  have hgd := guard_h32
  rw [e]
  clear hg hf hn hbig e hA hol hgl hfl
  go_enter Tryd.func3, Tryd.ntmps3
  go_wp2_with (fail)
  with_reducible refine (HNW.out _).mono ?_
  rintro e w1 ⟨bt, rfl, hbt, hT1, hU1⟩
  have HBT : Hid (w.heap.size ≤ bt) := Nat.le_of_eq hbt.symm
  clear hbt
  go_wp2_with (fail)
  with_reducible refine (HNW.out _).mono ?_
  rintro e w2 ⟨bu, rfl, hbu, hT2, hU2⟩
  have htu : bt < bu := by have := hT1.lt.1; omega
  have HTU := Lib.hid htu
  have hTt := hT1.upd0 hU2
  have hV2 := hU1.trans hU2
  clear hbu
  obtain ⟨B0, hB0⟩ : ∃ B, w2.heap.size = B := ⟨_, rfl⟩
  have HB0 := Lib.hid hB0
  have hBu : bu < B0 := by have := hT2.lt.1; omega
  have HBU := Lib.hid hBu
  have HTt := Lib.hid hTt
  have HTu := Lib.hid hT2
  have HV2 := Lib.hid hV2
  have HBw : Hid (w.heap.size ≤ B0) := by show w.heap.size ≤ B0; have := hV2.size; omega
  clear hT1 hT2 hU1 hU2 hTt hV2 hB0 hBu htu
  go_wp2_with (fail)
  go_loopw [5, 6, 7] (fun lv mv iv wr => ∃ (k : Nat) (la ma : List H8) (pt pu : Value), k ≤ n ∧ iv = .int .i64 k ∧ la.length + ma.length = k ∧ OwnH wr B0 lv la ∧ OwnH wr B0 mv ma ∧ TreeAt wr bt pt la ∧ TreeAt wr bu pu ma ∧ (∀ j, pt.ownBlock = some j → B0 ≤ j) ∧ (∀ j, pu.ownBlock = some j → B0 ≤ j) ∧ Sep lv mv ∧ Sep lv pt ∧ Sep lv pu ∧ Sep mv pt ∧ Sep mv pu ∧ Sep pt pu ∧ B0 ≤ wr.heap.size ∧ Upd [] w wr) (fun _ _ iv _ => n - (intOf iv).toNat)
  case atStart => exact ⟨0, [], [], .slice none 0 0, .slice none 0 0, by omega, rfl, rfl, OwnH.nil _ _, OwnH.nil _ _, HTt.out, HTu.out, (fun j hj => by cases hj), (fun j hj => by cases hj), Sep.none _ _ _, Sep.none _ _ _, Sep.none _ _ _, Sep.none _ _ _, Sep.none _ _ _, Sep.none _ _ _, by rw [HB0.out]; exact Nat.le_refl _, HV2.out⟩
  case round =>
    obtain ⟨k, la, ma, pt, pu, hk, rfl, hlm, hOl, hOm, hTt, hTu, hbpt, hbpu, s1, s2, s3, s4, s5, s6, hsz, hU⟩ := hrel
    have HOL := Lib.hid hOl
    have HOM := Lib.hid hOm
    have HTT := Lib.hid hTt
    have HTV := Lib.hid hTu
    have HBPT := Lib.hid hbpt
    have HBPU := Lib.hid hbpu
    have S1 := Lib.hid s1
    have S2 := Lib.hid s2
    have S3 := Lib.hid s3
    have S4 := Lib.hid s4
    have S5 := Lib.hid s5
    have S6 := Lib.hid s6
    have HU := Lib.hid hU
    have HSZ := Lib.hid hsz
    have HLM := Lib.hid hlm
    obtain ⟨wo, rfl⟩ : ∃ wo : World, wo = wr := ⟨_, rfl⟩
    obtain ⟨Al, cl, el, _, _⟩ := hOl.rd.isSlice
    obtain ⟨Am, cm, em, _, _⟩ := hOm.rd.isSlice
    have hrl := rootOf_length la hOl.1
    have hrm := rootOf_length ma hOm.1
    have HRL : Hid (∀ W, Upd [] wo W → Calls Tryd.prog 12 #[u5] W fun e w' => e = .returned (.tuple #[.agg ((rootOf la).map U8).toArray, .bool true]) ∧ Upd [] W w') := fun W hW => refroot_ W u5 la (HOL.out.upd0 hW).rd (by omega)
    have HRM : Hid (∀ W, Upd [] wo W → Calls Tryd.prog 12 #[u6] W fun e w' => e = .returned (.tuple #[.agg ((rootOf ma).map U8).toArray, .bool true]) ∧ Upd [] W w') := fun W hW => refroot_ W u6 ma (HOM.out.upd0 hW).rd (by omega)
    have HTRt : Hid (∀ W, Upd [] wo W → Calls Tryd.prog 13 #[.pointer (some ⟨bt, 0, none⟩)] W fun e w' => e = .returned (.agg ((rootOf la).map U8).toArray) ∧ Upd [] W w') := fun W hW => HTR.out W bt pt la (by omega) (HU.out.trans hW) (HTT.out.upd0 hW)
    have HTRu : Hid (∀ W, Upd [] wo W → Calls Tryd.prog 13 #[.pointer (some ⟨bu, 0, none⟩)] W fun e w' => e = .returned (.agg ((rootOf ma).map U8).toArray) ∧ Upd [] W w') := fun W hW => HTR.out W bu pu ma (by omega) (HU.out.trans hW) (HTV.out.upd0 hW)
    obtain ⟨L1, hL1⟩ : ∃ L, la.length = L := ⟨_, rfl⟩
    obtain ⟨M1, hM1⟩ : ∃ L, ma.length = L := ⟨_, rfl⟩
    have HTSt : Hid (∀ W, Upd [] wo W → Calls Tryd.prog 14 #[.pointer (some ⟨bt, 0, none⟩)] W fun e w' => e = .returned (.int .i64 L1) ∧ Upd [] W w') := fun W hW => by rw [← hL1]; exact size_ W bt pt la (HTT.out.upd0 hW)
    have HTSu : Hid (∀ W, Upd [] wo W → Calls Tryd.prog 14 #[.pointer (some ⟨bu, 0, none⟩)] W fun e w' => e = .returned (.int .i64 M1) ∧ Upd [] W w') := fun W hW => by rw [← hM1]; exact size_ W bu pu ma (HTV.out.upd0 hW)
    have hqa := fun W => neq_h32 (rootOf la) (rootOf la) hrl hrl W
    rw [show (rootOf la != rootOf la) = false by simp] at hqa
    have hqb := fun W => neq_h32 (rootOf ma) (rootOf ma) hrm hrm W
    rw [show (rootOf ma != rootOf ma) = false by simp] at hqb
    have hsa := szrow hrl
    have hoa := sameZ hrl
    have haa := oneAll (rootOf la)
    have hsb := szrow hrm
    have hob := sameZ hrm
    have hab := oneAll (rootOf ma)
    have HLL : Hid (la.length ≤ 200) := by show la.length ≤ 200; omega
    have HML : Hid (ma.length ≤ 200) := by show ma.length ≤ 200; omega
    obtain ⟨ca, hca⟩ : ∃ c, ((rootOf la).map U8).toArray = c := ⟨_, rfl⟩
    obtain ⟨cb, hcb⟩ : ∃ c, ((rootOf ma).map U8).toArray = c := ⟨_, rfl⟩
    rw [hca] at HRL HTRt hqa hsa hoa haa
    rw [hcb] at HRM HTRu hqb hsb hob hab
    rw [hL1] at el
    rw [hM1] at em
    rw [el] at HRL HOL S1 S2 S3 ⊢
    rw [em] at HRM HOM S1 S4 S5 ⊢
    have h' : (k : Int) ≤ (n : Int) := by omega
    clear hlm hOl hOm hTt hTu hbpt hbpu s1 s2 s3 s4 s5 s6 hsz hU el em hrl hrm hca hcb hL1 hM1
    go_wp2_with (fail)
    with_reducible refine (HRL.out _ (Upd.refl [] wo)).mono ?_
    rintro e w5 ⟨rfl, hU5⟩
    go_wp2_with (with_reducible refine arm_alloc (zero_h32 _) ?_)
    intro b8 w6 hb8 k6 hU6 hz6
    change w6.heap[b8]? = some (.cells (zrow8 32) 27 (0, 0)) at k6
    go_wp2_with (with_reducible refine arm_store (by with_unfolding_all exact rfl) (by with_unfolding_all exact rfl) k6 hsa hoa haa ?_)
    intro w7 k7 hX7 hz7
    have hW7 := hU5.trans (hU6.fresh hb8 hX7)
    clear hb8 k6 hU6 hz6 hX7 hz7 hU5
    go_wp2_with (fail)
    with_reducible refine (HRM.out _ hW7).mono ?_
    rintro e w8 ⟨rfl, hU8⟩
    have k78 := hU8.heap k7 (by simp)
    have hW8 := hW7.trans hU8
    clear k7 hW7 hU8
    go_wp2_with (with_reducible refine arm_alloc (zero_h32 _) ?_)
    intro b10 w9 hb10 k9 hU9 hz9
    change w9.heap[b10]? = some (.cells (zrow8 32) 27 (0, 0)) at k9
    go_wp2_with (with_reducible refine arm_store (by with_unfolding_all exact rfl) (by with_unfolding_all exact rfl) k9 hsb hob hab ?_)
    intro w10 k10 hX10 hz10
    have hT10 := hU9.fresh hb10 hX10
    have k710 := hT10.heap k78 (by simp)
    have hW10 := hW8.trans hT10
    have HTRt1 : Hid (∀ W, Upd [] w10 W → Calls Tryd.prog 13 #[.pointer (some ⟨bt, 0, none⟩)] W fun e w' => e = .returned (.agg ca) ∧ Upd [] W w') := fun W hW => HTRt.out W (hW10.trans hW)
    have HTRu1 : Hid (∀ W, Upd [] w10 W → Calls Tryd.prog 13 #[.pointer (some ⟨bu, 0, none⟩)] W fun e w' => e = .returned (.agg cb) ∧ Upd [] W w') := fun W hW => HTRu.out W (hW10.trans hW)
    have HTSt1 : Hid (∀ W, Upd [] w10 W → Calls Tryd.prog 14 #[.pointer (some ⟨bt, 0, none⟩)] W fun e w' => e = .returned (.int .i64 L1) ∧ Upd [] W w') := fun W hW => HTSt.out W (hW10.trans hW)
    have HTSu1 : Hid (∀ W, Upd [] w10 W → Calls Tryd.prog 14 #[.pointer (some ⟨bu, 0, none⟩)] W fun e w' => e = .returned (.int .i64 M1) ∧ Upd [] W w') := fun W hW => HTSu.out W (hW10.trans hW)
    have HQ8 : Hid (∀ W, Upd [] w10 W → ∃ t fr, W.heap[b8]? = some (.cells ca t fr)) := fun W hW => ⟨_, _, hW.heap k710 (by simp)⟩
    have HQ10 : Hid (∀ W, Upd [] w10 W → ∃ t fr, W.heap[b10]? = some (.cells cb t fr)) := fun W hW => ⟨_, _, hW.heap k10 (by simp)⟩
    have HW10 := Lib.hid hW10
    clear k78 hW8 hb10 k9 hU9 hz9 k10 hX10 hz10 hT10 k710 hW10 HTRt HTRu HTSt HTSu HRL HRM
    go_upto_region 13 with (fail)
    refine wp_region_quiet_all (Upd [] w10) (by kernel_rfl) (by kernel_rfl) (Upd.refl _ _).drew ?_
    refine wpQuiet_step (fun K hK => ?_)
    go_simp
    first
      | (refine ⟨_, fun _ _ => rfl, hK _ ?_⟩; clear hK K)
      | (refine hK _ ?_; clear hK K)
    repeat (first
      | go_big_quiet_skip
      | (refine wpQuiet_valK rfl (quiet_load_row 27 _ rfl b8 rfl _ HQ8.out Tryd.underlying27 rfl hsa) (fun K hK => ?_); go_simp; refine hK _ ?_; clear hK K)
      | (refine wpQuiet_valK rfl (quiet_load_row 27 _ rfl b10 rfl _ HQ10.out Tryd.underlying27 rfl hsb) (fun K hK => ?_); go_simp; refine hK _ ?_; clear hK K)
      | go_big_quiet_step ((intro hw2; first
          | rfl
          | ((with_reducible refine (HTRt1.out _ hw2).mono ?_); exact fun e w' h => ⟨h.1, hw2.trans h.2⟩)
          | ((with_reducible refine (HTRu1.out _ hw2).mono ?_); exact fun e w' h => ⟨h.1, hw2.trans h.2⟩)
          | ((with_reducible refine (HTSt1.out _ hw2).mono ?_); exact fun e w' h => ⟨h.1, hw2.trans h.2⟩)
          | ((with_reducible refine (HTSu1.out _ hw2).mono ?_); exact fun e w' h => ⟨h.1, hw2.trans h.2⟩)
          )))
    refine wpQuiet_nil ?_
    intro w11 hU11
    have hW11 := HW10.out.trans hU11
    have HW11 := Lib.hid hW11
    have HV11 := Lib.hid (HU.out.trans hW11)
    clear hU11 hW11 HTRt1 HTRu1 HTSt1 HTSu1 HQ8 HQ10 hqa hqb hsa hoa haa hsb hob hab
    by_cases h : k = n
    · subst h
      go_wp2_with (fail)
      go_ret
      exact ⟨rfl, HV11.out⟩
    have hkn : k < n := by omega
    have hkn' : (k : Int) < (n : Int) := by omega
    have q1 : ((k : Int) == (n : Int)) = false := by simp; omega
    have q2 : decide ((k : Int) = (n : Int)) = false := by simp; omega
    have q3 : decide (k = n) = false := by simpa using h
    obtain ⟨g, p, x, b, eA, hxl, hxr, hxb⟩ := HEL.out k hkn
    subst eA
    have hxb11 := HV11.out.cell hxb (by simp)
    have hsx := szlist hxl
    have HXR : Hid (∀ W, Upd [] w W → W.rangeAt g (p + k * 33) (x.map U8)) := fun W hW i v hi => hW.cell (hxr i v hi) (by simp)
    have HXL := Lib.hid hxl
    obtain ⟨lx, hlx⟩ : ∃ l, x.map U8 = l := ⟨_, rfl⟩
    rw [hlx] at HXR hsx
    have HLX := Lib.hid hlx
    clear hxl hxr hxb hlx
    cases b
    · have hOl := HOL.out.upd0 HW11.out
      have hOm := HOM.out.upd0 HW11.out
      have hTt := HTT.out.upd0 HW11.out
      have hTu := HTV.out.upd0 HW11.out
      have hx11 := HXR.out w11 HV11.out
      go_wp2_with (first
        | (with_reducible refine arm_load_mid (g := g) (k := p + k * 33) (by with_unfolding_all exact rfl) hx11 Tryd.underlying27 rfl hsx ?_)
        | (with_reducible refine bsH (l := x) (by rw [HLX.out]) HXL.out (by with_unfolding_all exact rfl) ?_))
      intro g12 w12 hg12 k12 hU12
      have hOl2 := hOl.upd0 hU12
      have hOm2 := hOm.upd0 hU12
      have hTt2 := hTt.upd0 hU12
      have hTu2 := hTu.upd0 hU12
      have hV12 := HV11.out.trans hU12
      have hb12 : B0 ≤ w12.heap.size := by have h1 := HW11.out.size; have h2 := hU12.size; have h3 := HSZ.out; omega
      go_wp2_with (with_reducible refine appendHw (by with_unfolding_all exact rfl) (by with_unfolding_all exact rfl) hOl2 k12 HXL.out (by have := HLL.out; omega) hb12 ?_)
      intro xv w13 hO13 hU13 hb13
      have hB13 := Grown.of hb13
      have hb13b : B0 ≤ w13.heap.size := by have := hU13.size; omega
      have hV13 : Upd [] w w13 := hV12.row hU13 (fun j hj => by have h1 := (hOl2.lt j hj).1; have h2 := HBw.out; omega)
      have hY13 := hOm2.upd hU13 (fun j hj hm => S1.out j (by simpa using hm) hj)
      have hTt3 := hTt2.upd hU13 (fun hm => by have h1 := (hOl2.lt bt (by simpa using hm)).1; have h2 := HBU.out; have h3 := HTU.out; omega) (fun j hj hm => S2.out j (by simpa using hm) hj)
      have hTu3 := hTu2.upd hU13 (fun hm => by have h1 := (hOl2.lt bu (by simpa using hm)).1; have h2 := HBU.out; omega) (fun j hj hm => S3.out j (by simpa using hm) hj)
      have t1 : Sep xv (.slice Am M1 cm) := Sep.grow S1.out hB13 (fun j hj => (hOm2.lt j hj).2)
      have t2 : Sep xv pt := Sep.grow S2.out hB13 (fun j hj => (hTt2.lt.2 j hj).2)
      have t3 : Sep xv pu := Sep.grow S3.out hB13 (fun j hj => (hTu2.lt.2 j hj).2)
      have hx13 := HXR.out w13 hV13
      have HAP := Lib.hid (HTA.out w13 bt pt la x HLL.out (by have h1 := HBT.out; have h2 := HTU.out; omega) HXL.out hV13 hTt3)
      rw [HLX.out] at HAP
      have HO13 := Lib.hid hO13
      have HY13 := Lib.hid hY13
      have HTt3 := Lib.hid hTt3
      have HTu3 := Lib.hid hTu3
      have HV13 := Lib.hid hV13
      have T1 := Lib.hid t1
      have T2 := Lib.hid t2
      have T3 := Lib.hid t3
      have HSZ13 := Lib.hid hb13b
      clear hOl hOm hTt hTu hx11 hg12 k12 hU12 hOl2 hOm2 hTt2 hTu2 hV12 hb12 hO13 hU13 hb13 hB13 hb13b hV13 hY13 hTt3 hTu3 t1 t2 t3 q1 q2 q3
      go_wp2_with (with_reducible refine arm_load_mid (g := g) (k := p + k * 33) (by with_unfolding_all exact rfl) hx13 Tryd.underlying27 rfl hsx ?_)
      with_reducible refine HAP.out.mono ?_
      rintro e w14 ⟨rfl, px, hT14, hB14, hU14⟩
      have hV14 : Upd [] w w14 := HV13.out.trans' hU14 (fun i hm hi => by
        rcases List.mem_cons.1 hm with hm | hm
        · have h1 := HBT.out; have h2 := HTU.out; omega
        · have h1 := HBPT.out i (by simpa using hm); have h2 := HBw.out; omega)
      have nb : ∀ (y : Value), (∀ j, y.ownBlock = some j → B0 ≤ j) → Sep y pt → ∀ j, y.ownBlock = some j → j ∉ bt :: pt.ownBlock.toList := fun y h1 h2 j hj hm => by
        rcases List.mem_cons.1 hm with hm | hm
        · have h3 := h1 j hj; have h4 := HBU.out; have h5 := HTU.out; omega
        · exact h2 j hj (by simpa using hm)
      have hX14 := HO13.out.upd hU14 (nb _ (fun j hj => (HO13.out.lt j hj).1) T2.out)
      have hY14 := HY13.out.upd hU14 (nb _ (fun j hj => (HY13.out.lt j hj).1) S4.out)
      have hZ14 := HTu3.out.upd hU14 (fun hm => by
        rcases List.mem_cons.1 hm with hm | hm
        · have := HTU.out; omega
        · have h1 := HBPT.out _ (show pt.ownBlock = some bu by simpa using hm); have h2 := HBU.out; have h3 := HTU.out; omega) (nb _ HBPU.out (Sep.symm S6.out))
      have hbp : ∀ j, px.ownBlock = some j → B0 ≤ j := fun j hj => by
        rcases hB14 with hB | ⟨i, hB, hi⟩
        · exact HBPT.out j (by rw [← hB]; exact hj)
        · rw [hB] at hj; injection hj with hj; have := HSZ13.out; omega
      have u1 : Sep px xv := Sep.grow (Sep.symm T2.out) hB14 (fun j hj => (HO13.out.lt j hj).2)
      have u2 : Sep px (.slice Am M1 cm) := Sep.grow (Sep.symm S4.out) hB14 (fun j hj => (HY13.out.lt j hj).2)
      have u3 : Sep px pu := Sep.grow (Sep.symm (Sep.symm S6.out)) hB14 (fun j hj => (HTu3.out.lt.2 j hj).2)
      have hs14 : B0 ≤ w14.heap.size := by have h1 := hU14.size; have h2 := HSZ13.out; omega
      have HT14 := Lib.hid hT14
      have HX14 := Lib.hid hX14
      have HY14 := Lib.hid hY14
      have HZ14 := Lib.hid hZ14
      have HBP14 := Lib.hid hbp
      have U1 := Lib.hid u1
      have U2 := Lib.hid u2
      have U3 := Lib.hid u3
      have HV14 := Lib.hid hV14
      clear hT14 hB14 hU14 hV14 nb hX14 hY14 hZ14 hbp u1 u2 u3 hx13 HAP
      go_wp2_with (fail)
      go_roundw
      case rel => exact ⟨k + 1, la ++ [x], ma, px, pu, by omega, by go_num, by have := HLM.out; simp only [List.length_append, List.length_singleton]; omega, HX14.out, HY14.out, HT14.out, HZ14.out, HBP14.out, HBPU.out, T1.out, Sep.symm U1.out, T3.out, Sep.symm U2.out, S5.out, U3.out, hs14, HV14.out⟩
      case measure => simp [intOf]; omega
    · have SML : Hid (Sep (.slice Am M1 cm) (.slice Al L1 cl)) := Sep.symm S1.out
      have hOl := HOL.out.upd0 HW11.out
      have hOm := HOM.out.upd0 HW11.out
      have hTt := HTT.out.upd0 HW11.out
      have hTu := HTV.out.upd0 HW11.out
      have hx11 := HXR.out w11 HV11.out
      go_wp2_with (first
        | (with_reducible refine arm_load_mid (g := g) (k := p + k * 33) (by with_unfolding_all exact rfl) hx11 Tryd.underlying27 rfl hsx ?_)
        | (with_reducible refine bsH (l := x) (by rw [HLX.out]) HXL.out (by with_unfolding_all exact rfl) ?_))
      intro g12 w12 hg12 k12 hU12
      have hOl2 := hOl.upd0 hU12
      have hOm2 := hOm.upd0 hU12
      have hTt2 := hTt.upd0 hU12
      have hTu2 := hTu.upd0 hU12
      have hV12 := HV11.out.trans hU12
      have hb12 : B0 ≤ w12.heap.size := by have h1 := HW11.out.size; have h2 := hU12.size; have h3 := HSZ.out; omega
      go_wp2_with (with_reducible refine appendHw (by with_unfolding_all exact rfl) (by with_unfolding_all exact rfl) hOm2 k12 HXL.out (by have := HML.out; omega) hb12 ?_)
      intro xv w13 hO13 hU13 hb13
      have hB13 := Grown.of hb13
      have hb13b : B0 ≤ w13.heap.size := by have := hU13.size; omega
      have hV13 : Upd [] w w13 := hV12.row hU13 (fun j hj => by have h1 := (hOm2.lt j hj).1; have h2 := HBw.out; omega)
      have hY13 := hOl2.upd hU13 (fun j hj hm => SML.out j (by simpa using hm) hj)
      have hTt3 := hTt2.upd hU13 (fun hm => by have h1 := (hOm2.lt bt (by simpa using hm)).1; have h2 := HBU.out; have h3 := HTU.out; omega) (fun j hj hm => S4.out j (by simpa using hm) hj)
      have hTu3 := hTu2.upd hU13 (fun hm => by have h1 := (hOm2.lt bu (by simpa using hm)).1; have h2 := HBU.out; omega) (fun j hj hm => S5.out j (by simpa using hm) hj)
      have t1 : Sep xv (.slice Al L1 cl) := Sep.grow SML.out hB13 (fun j hj => (hOl2.lt j hj).2)
      have t2 : Sep xv pt := Sep.grow S4.out hB13 (fun j hj => (hTt2.lt.2 j hj).2)
      have t3 : Sep xv pu := Sep.grow S5.out hB13 (fun j hj => (hTu2.lt.2 j hj).2)
      have hx13 := HXR.out w13 hV13
      have HAP := Lib.hid (HTA.out w13 bu pu ma x HML.out (by have h1 := HBT.out; have h2 := HTU.out; omega) HXL.out hV13 hTu3)
      rw [HLX.out] at HAP
      have HO13 := Lib.hid hO13
      have HY13 := Lib.hid hY13
      have HTt3 := Lib.hid hTt3
      have HTu3 := Lib.hid hTu3
      have HV13 := Lib.hid hV13
      have T1 := Lib.hid t1
      have T2 := Lib.hid t2
      have T3 := Lib.hid t3
      have HSZ13 := Lib.hid hb13b
      clear hOl hOm hTt hTu hx11 hg12 k12 hU12 hOl2 hOm2 hTt2 hTu2 hV12 hb12 hO13 hU13 hb13 hB13 hb13b hV13 hY13 hTt3 hTu3 t1 t2 t3 q1 q2 q3
      go_wp2_with (with_reducible refine arm_load_mid (g := g) (k := p + k * 33) (by with_unfolding_all exact rfl) hx13 Tryd.underlying27 rfl hsx ?_)
      with_reducible refine HAP.out.mono ?_
      rintro e w14 ⟨rfl, px, hT14, hB14, hU14⟩
      have hV14 : Upd [] w w14 := HV13.out.trans' hU14 (fun i hm hi => by
        rcases List.mem_cons.1 hm with hm | hm
        · have h1 := HBT.out; have h2 := HTU.out; omega
        · have h1 := HBPU.out i (by simpa using hm); have h2 := HBw.out; omega)
      have nb : ∀ (y : Value), (∀ j, y.ownBlock = some j → B0 ≤ j) → Sep y pu → ∀ j, y.ownBlock = some j → j ∉ bu :: pu.ownBlock.toList := fun y h1 h2 j hj hm => by
        rcases List.mem_cons.1 hm with hm | hm
        · have h3 := h1 j hj; have h4 := HBU.out; have h5 := HTU.out; omega
        · exact h2 j hj (by simpa using hm)
      have hX14 := HO13.out.upd hU14 (nb _ (fun j hj => (HO13.out.lt j hj).1) T3.out)
      have hY14 := HY13.out.upd hU14 (nb _ (fun j hj => (HY13.out.lt j hj).1) S3.out)
      have hZ14 := HTt3.out.upd hU14 (fun hm => by
        rcases List.mem_cons.1 hm with hm | hm
        · have := HTU.out; omega
        · have h1 := HBPU.out _ (show pu.ownBlock = some bt by simpa using hm); have h2 := HBU.out; have h3 := HTU.out; omega) (nb _ HBPT.out S6.out)
      have hbp : ∀ j, px.ownBlock = some j → B0 ≤ j := fun j hj => by
        rcases hB14 with hB | ⟨i, hB, hi⟩
        · exact HBPU.out j (by rw [← hB]; exact hj)
        · rw [hB] at hj; injection hj with hj; have := HSZ13.out; omega
      have u1 : Sep px xv := Sep.grow (Sep.symm T3.out) hB14 (fun j hj => (HO13.out.lt j hj).2)
      have u2 : Sep px (.slice Al L1 cl) := Sep.grow (Sep.symm S3.out) hB14 (fun j hj => (HY13.out.lt j hj).2)
      have u3 : Sep px pt := Sep.grow (Sep.symm S6.out) hB14 (fun j hj => (HTt3.out.lt.2 j hj).2)
      have hs14 : B0 ≤ w14.heap.size := by have h1 := hU14.size; have h2 := HSZ13.out; omega
      have HT14 := Lib.hid hT14
      have HX14 := Lib.hid hX14
      have HY14 := Lib.hid hY14
      have HZ14 := Lib.hid hZ14
      have HBP14 := Lib.hid hbp
      have U1 := Lib.hid u1
      have U2 := Lib.hid u2
      have U3 := Lib.hid u3
      have HV14 := Lib.hid hV14
      clear hT14 hB14 hU14 hV14 nb hX14 hY14 hZ14 hbp u1 u2 u3 hx13 HAP
      go_wp2_with (fail)
      go_roundw
      case rel => exact ⟨k + 1, la, ma ++ [x], pt, px, by omega, by go_num, by have := HLM.out; simp only [List.length_append, List.length_singleton]; omega, HY14.out, HX14.out, HZ14.out, HT14.out, HBPT.out, HBP14.out, Sep.symm T1.out, S2.out, Sep.symm U2.out, T2.out, Sep.symm U1.out, Sep.symm U3.out, hs14, HV14.out⟩
      case measure => simp [intOf]; omega
end Go.Proofs.YtdfoffheolbokaaDoor
