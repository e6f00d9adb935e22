/-
  The frames of a key: its bytes, zeros behind them, each turned by one byte.
-/
import Derived.Test.YtgpieipflidkpaaDoorJoin
import Derived.Test.YtgpieipflidkpaaDoorMid
namespace Go.Proofs.YtgpieipflidkpaaDoor
open Go Go.RowKit Go.Proofs
theorem OwnB.whole {w : World} {B g n : Nat} {l : List (BitVec 8)} (h : OwnB w B (.slice (some ⟨g, 0, none⟩) n n) l) (hn : 0 < n) : w.heap[g]? = some (.cells (l.map U8).toArray 5 (0, 0)) := by
  have e := h.len
  subst e
  obtain ⟨g', cap, cur, e, hb, hh, h1, h2, h3, h4⟩ := own_at h hn
  injection e with e1 e2 e3
  injection e1 with e1
  injection e1 with e1
  subst e1 e3
  rw [hh]
  rw [List.take_of_length_le (by simp; omega)] at h4
  rw [← h4]
theorem OwnB.of_whole {w : World} {B g n : Nat} {l : List (BitVec 8)} (h : w.heap[g]? = some (.cells (l.map U8).toArray 5 (0, 0))) (hB : B ≤ g) (hn : l.length = n) (hm : n ≤ maxLen) : OwnB w B (.slice (some ⟨g, 0, none⟩) n n) l := by
  subst hn
  exact ⟨by simp, .inr ⟨g, l.length, _, rfl, hB, h, Nat.le_refl _, hm, by simp, by rw [Nat.mul_one]; exact List.take_of_length_le (by simp)⟩⟩
def padKey (key : List (BitVec 8)) (n : Nat) : List (BitVec 8) := key ++ List.replicate (n - key.length) 0
def frameOf (key : List (BitVec 8)) (n : Nat) (c : BitVec 8) : List (BitVec 8) := (padKey key n).map (· ^^^ c)
theorem padKey_length (key : List (BitVec 8)) (n : Nat) (h : key.length ≤ n) : (padKey key n).length = n := by simp [padKey]; omega
theorem frameOf_length (key : List (BitVec 8)) (n : Nat) (c : BitVec 8) (h : key.length ≤ n) : (frameOf key n c).length = n := by simp [frameOf, padKey_length key n h]
def turnTo (P : List (BitVec 8)) (c : BitVec 8) (i : Nat) : List (BitVec 8) := (P.take i).map (· ^^^ c) ++ P.drop i
theorem turnTo_length (P : List (BitVec 8)) (c : BitVec 8) (i : Nat) : (turnTo P c i).length = P.length := by simp [turnTo]; omega
theorem turnTo_get (P : List (BitVec 8)) (c : BitVec 8) (i : Nat) (h : i < P.length) : (turnTo P c i)[i]'(by rw [turnTo_length]; exact h) = P[i] := by
  simp only [turnTo]; rw [List.getElem_append_right (by simp; omega)]; simp; congr 1; omega
theorem turnTo_set (P : List (BitVec 8)) (c : BitVec 8) (i : Nat) (h : i < P.length) : (turnTo P c i).set i (P[i] ^^^ c) = turnTo P c (i + 1) := by
  simp only [turnTo]
  rw [List.set_append_right _ _ (by simp; omega), take_snoc' P i h, List.map_append, List.append_assoc]
  congr 1
  rw [show i - ((P.take i).map (· ^^^ c)).length = 0 by simp; omega, List.drop_eq_getElem_cons h]
  rfl
theorem turnTo_end (P : List (BitVec 8)) (c : BitVec 8) (n : Nat) (h : P.length = n) : turnTo P c n = P.map (· ^^^ c) := by
  subst h; simp [turnTo]
set_option maxRecDepth 100000 in
set_option maxHeartbeats 1600000 in
theorem frame256 (w : World) (kv : Value) (key : List (BitVec 8)) (b1 b2 n : Nat) (c : BitVec 8) (h1 : w.cell? ⟨b1, 0, none⟩ = some (.int .i64 n)) (h2 : w.cell? ⟨b2, 0, none⟩ = some kv) (hr : RdB w kv key) (hkl : key.length ≤ n) (hn : n ≤ 128) (hn0 : 0 < n) :
    Calls Tryd.prog 43 #[U8 c, .pointer (some ⟨b1, 0, none⟩), .pointer (some ⟨b2, 0, none⟩)] w fun e w' => ∃ v, e = .returned v ∧ OwnB w' w.heap.size v (frameOf key n c) ∧ Upd [] w w' := by
  obtain ⟨B, hB⟩ : ∃ B, w.heap.size = B := ⟨_, rfl⟩
  have HB := Lib.hid hB
  rw [hB]
  have HR := Lib.hid hr
  clear hB hr
  go_enter Tryd.func43, Tryd.ntmps43
  go_upto_region 2 with (refine make_bytes rfl _ _ rfl B n n _ _ rfl rfl rfl rfl (Nat.le_refl _) (by omega) (by have := HB.out; omega) ?_; intro w1 hO hU)
  rw [HB.out] at hO ⊢
  have hg := hO.whole hn0
  have hg1 : w1.heap[B]? = some (.cells ((List.replicate n (0 : BitVec 8)).map U8).toArray 5 (0, 0)) := hg
  have h2' := hU.cell h2 (by simp)
  have HR1 := Lib.hid (HR.out.upd0 hU)
  have hmn : key.length = min key.length n := by omega
  clear hg hO h1 h2
  go_upto_region 3 with (refine copy_bytes rfl _ _ rfl B 0 n n rfl kv key rfl HR1.out _ 5 hg1 key.length hmn (by simp) ?_; intro w2 HG2 hU2)
  have hg2 : w2.heap[B]? = some (.cells ((padKey key n).map U8).toArray 5 (0, 0)) := by
    rw [HG2.out]
    congr 3
    simp [splice, padKey]
  obtain ⟨P, hP⟩ : ∃ P, padKey key n = P := ⟨_, rfl⟩
  have hPl : P.length = n := by rw [← hP]; exact padKey_length key n hkl
  have hO2 : OwnB w2 B (.slice (some ⟨B, 0, none⟩) n n) (turnTo P c 0) := by
    refine OwnB.of_whole ?_ (Nat.le_refl _) (by rw [turnTo_length]; exact hPl) (by simp only [maxLen]; omega)
    rw [hg2, hP]; simp [turnTo]
  have hV2 : Upd [] w w2 := hU.trans' hU2 (fun i hm hi => by have := HB.out; simp at hm; omega)
  have HE : Hid (turnTo P c n = frameOf key n c) := by
    show turnTo P c n = frameOf key n c
    rw [turnTo_end P c n hPl, ← hP]; rfl
  have HPL := Lib.hid hPl
  clear HG2 hU hU2 hg1 hg2 hP hPl hkl hmn h2' HR1
  go_wp2
  go_loopw [14] (fun i wr => ∃ q : Nat, q ≤ n ∧ i = .int .i64 q ∧ OwnB wr B (.slice (some ⟨B, 0, none⟩) n n) (turnTo P c q) ∧ Upd [] w wr) (fun i _ => n - (intOf i).toNat)
  case atStart => exact ⟨0, by omega, rfl, hO2, hV2⟩
  case round =>
    obtain ⟨q, hq, rfl, hO, hV⟩ := hrel
    by_cases h : q < n
    · have hql : q < P.length := by rw [HPL.out]; exact h
      have hc := hO.cell q (by rw [turnTo_length]; exact hql)
      rw [turnTo_get P c q hql] at hc
      have hf := hO.frozen q (by rw [turnTo_length]; exact hql)
      have hs := hO.set q (by rw [turnTo_length]; exact hql) (P[q] ^^^ c)
      rw [turnTo_set P c q hql] at hs
      obtain ⟨x, hx⟩ : ∃ x, P[q] = x := ⟨_, rfl⟩
      rw [hx] at hc hs
      have HS := Lib.hid hs
      have HV := Lib.hid hV
      have HX := Lib.hid hx
      clear hs hV hO hx
      have hqn : (q : Int) < (n : Int) := by omega
      go_wp2
      go_roundw
      case rel => exact ⟨q + 1, by omega, by go_num, HS.out, HV.out.setCell _ _ (fun hb => by have := HB.out; simp at hb; omega)⟩
      case measure => simp [intOf]; omega
    · obtain rfl : q = n := by omega
      rw [HE.out] at hO
      go_wp2
      go_ret
      exact ⟨_, rfl, hO, hV⟩
set_option maxRecDepth 100000 in
set_option maxHeartbeats 1600000 in
theorem frame512 (w : World) (kv : Value) (key : List (BitVec 8)) (b1 b2 n : Nat) (c : BitVec 8) (h1 : w.cell? ⟨b1, 0, none⟩ = some (.int .i64 n)) (h2 : w.cell? ⟨b2, 0, none⟩ = some kv) (hr : RdB w kv key) (hkl : key.length ≤ n) (hn : n ≤ 128) (hn0 : 0 < n) :
    Calls Tryd.prog 46 #[U8 c, .pointer (some ⟨b1, 0, none⟩), .pointer (some ⟨b2, 0, none⟩)] w fun e w' => ∃ v, e = .returned v ∧ OwnB w' w.heap.size v (frameOf key n c) ∧ Upd [] w w' := by
  obtain ⟨B, hB⟩ : ∃ B, w.heap.size = B := ⟨_, rfl⟩
  have HB := Lib.hid hB
  rw [hB]
  have HR := Lib.hid hr
  clear hB hr
  go_enter Tryd.func46, Tryd.ntmps46
  go_upto_region 2 with (refine make_bytes rfl _ _ rfl B n n _ _ rfl rfl rfl rfl (Nat.le_refl _) (by omega) (by have := HB.out; omega) ?_; intro w1 hO hU)
  rw [HB.out] at hO ⊢
  have hg := hO.whole hn0
  have hg1 : w1.heap[B]? = some (.cells ((List.replicate n (0 : BitVec 8)).map U8).toArray 5 (0, 0)) := hg
  have h2' := hU.cell h2 (by simp)
  have HR1 := Lib.hid (HR.out.upd0 hU)
  have hmn : key.length = min key.length n := by omega
  clear hg hO h1 h2
  go_upto_region 3 with (refine copy_bytes rfl _ _ rfl B 0 n n rfl kv key rfl HR1.out _ 5 hg1 key.length hmn (by simp) ?_; intro w2 HG2 hU2)
  have hg2 : w2.heap[B]? = some (.cells ((padKey key n).map U8).toArray 5 (0, 0)) := by
    rw [HG2.out]
    congr 3
    simp [splice, padKey]
  obtain ⟨P, hP⟩ : ∃ P, padKey key n = P := ⟨_, rfl⟩
  have hPl : P.length = n := by rw [← hP]; exact padKey_length key n hkl
  have hO2 : OwnB w2 B (.slice (some ⟨B, 0, none⟩) n n) (turnTo P c 0) := by
    refine OwnB.of_whole ?_ (Nat.le_refl _) (by rw [turnTo_length]; exact hPl) (by simp only [maxLen]; omega)
    rw [hg2, hP]; simp [turnTo]
  have hV2 : Upd [] w w2 := hU.trans' hU2 (fun i hm hi => by have := HB.out; simp at hm; omega)
  have HE : Hid (turnTo P c n = frameOf key n c) := by
    show turnTo P c n = frameOf key n c
    rw [turnTo_end P c n hPl, ← hP]; rfl
  have HPL := Lib.hid hPl
  clear HG2 hU hU2 hg1 hg2 hP hPl hkl hmn h2' HR1
  go_wp2
  go_loopw [14] (fun i wr => ∃ q : Nat, q ≤ n ∧ i = .int .i64 q ∧ OwnB wr B (.slice (some ⟨B, 0, none⟩) n n) (turnTo P c q) ∧ Upd [] w wr) (fun i _ => n - (intOf i).toNat)
  case atStart => exact ⟨0, by omega, rfl, hO2, hV2⟩
  case round =>
    obtain ⟨q, hq, rfl, hO, hV⟩ := hrel
    by_cases h : q < n
    · have hql : q < P.length := by rw [HPL.out]; exact h
      have hc := hO.cell q (by rw [turnTo_length]; exact hql)
      rw [turnTo_get P c q hql] at hc
      have hf := hO.frozen q (by rw [turnTo_length]; exact hql)
      have hs := hO.set q (by rw [turnTo_length]; exact hql) (P[q] ^^^ c)
      rw [turnTo_set P c q hql] at hs
      obtain ⟨x, hx⟩ : ∃ x, P[q] = x := ⟨_, rfl⟩
      rw [hx] at hc hs
      have HS := Lib.hid hs
      have HV := Lib.hid hV
      have HX := Lib.hid hx
      clear hs hV hO hx
      have hqn : (q : Int) < (n : Int) := by omega
      go_wp2
      go_roundw
      case rel => exact ⟨q + 1, by omega, by go_num, HS.out, HV.out.setCell _ _ (fun hb => by have := HB.out; simp at hb; omega)⟩
      case measure => simp [intOf]; omega
    · obtain rfl : q = n := by omega
      rw [HE.out] at hO
      go_wp2
      go_ret
      exact ⟨_, rfl, hO, hV⟩
end Go.Proofs.YtgpieipflidkpaaDoor
