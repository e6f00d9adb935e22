/-
  bytes.Compare, cmp.Compare[int]; the order of rows of bytes.
-/
import Derived.Test.YtjoliagnhmfdiaaMid
import Derived.Test.YtjoliagnhmfdiaaCopy
import Derived.Test.YtjoliagnhmfdiaaArms
import Derived.Lib.Bytealg
import Derived.Laws.Externs
namespace Go.Proofs.Ytjoliagnhmfdiaa
open Go Go.RowKit Go.Proofs
def cmpB : List (BitVec 8) → List (BitVec 8) → Int
  | [], [] => 0
  | [], _ :: _ => -1
  | _ :: _, [] => 1
  | a :: r, b :: s => if a < b then -1 else if b < a then 1 else cmpB r s
def toU (b : BitVec 8) : UInt8 := b.toNat.toUInt8
theorem toU_lt (a b : BitVec 8) : (toU a < toU b) ↔ a < b := by
  have ha := a.isLt
  have hb := b.isLt
  rw [UInt8.lt_iff_toNat_lt, BitVec.lt_def]
  simp only [toU, Nat.toUInt8, UInt8.toNat_ofNat']
  rw [Nat.mod_eq_of_lt (by omega), Nat.mod_eq_of_lt (by omega)]
theorem cmpB_eq : ∀ (l m : List (BitVec 8)), Lib.compareBytes (l.map toU) (m.map toU) = cmpB l m
  | [], [] => rfl
  | [], _ :: _ => rfl
  | _ :: _, [] => rfl
  | a :: r, b :: s => by
    simp only [List.map_cons, Lib.compareBytes, cmpB, toU_lt, cmpB_eq r s]
theorem run_loadBytes {P : Program} (w : World) : ∀ (l : List (BitVec 8)) (g o : Nat) (acc : ByteArray), Bytes w g o l →
    (Extern.Bytes.loadBytes ⟨g, o, none⟩ l.length acc).run P w = .ok ⟨acc.data ++ (l.map toU).toArray⟩ w
  | [], g, o, acc, _ => by
    unfold Extern.Bytes.loadBytes
    simp
  | b :: l, g, o, acc, h => by
    have h0 := h 0 (by simp)
    have hr : Bytes w g (o + 1) l := by
      intro i hi
      have := h (i + 1) (by simpa using hi)
      rw [show o + (i + 1) = o + 1 + i by omega] at this
      simpa using this
    have ih := run_loadBytes (P := P) w l g (o + 1) (acc.push (toU b)) hr
    simp only [Nat.add_zero, List.getElem_cons_zero] at h0
    rw [List.length_cons]
    unfold Extern.Bytes.loadBytes
    rw [Sem.run_bind, run_load, h0]
    simp only [Result.andThen_ok, U8, Addr.add_lit, Int.toNat_natCast]
    have e : acc.push (b.toNat.toUInt8) = acc.push (toU b) := rfl
    rw [e, ih]
    simp [ByteArray.push]
theorem run_bytesOf {P : Program} {w : World} {v : Value} {l : List (BitVec 8)} (h : RdB w v l) : (Extern.Bytes.bytesOf v).run P w = .ok ⟨(l.map toU).toArray⟩ w := by
  obtain ⟨A, c, rfl, h1, h2, h3⟩ := h
  by_cases h0 : 0 < l.length
  · obtain ⟨g, p, rfl, hb⟩ := h3 h0
    have := run_loadBytes (P := P) w l g p .empty hb
    simpa [Extern.Bytes.bytesOf] using this
  · obtain rfl : l = [] := List.eq_nil_of_length_eq_zero (by omega)
    cases A with
    | none => rfl
    | some a => rfl
theorem run_bcompare {P : Program} {w : World} {v u : Value} {l m : List (BitVec 8)} (h : RdB w v l) (k : RdB w u m) : (Extern.BytealgCompare.compare #[v, u]).run P w = .ok (.int .i64 (cmpB l m)) w := by
  change Sem.run P (do pure (goInt (Extern.BytealgCompare.cmp (← Extern.Bytes.bytesOf v) (← Extern.Bytes.bytesOf u)))) w = _
  rw [Sem.run_bind, run_bytesOf h, Result.andThen_ok, Sem.run_bind, run_bytesOf k, Result.andThen_ok, Lib.cmp_eq]
  simp only [Sem.run_pure, cmpB_eq]
  rfl
set_option maxRecDepth 100000 in
theorem bcompare_ (w : World) (v u : Value) (l m : List (BitVec 8)) (h : RdB w v l) (k : RdB w u m) : Calls Try.prog 22 #[v, u] w fun e w' => e = .returned (.int .i64 (cmpB l m)) ∧ w = w' := by
  have hr : Hid ((Extern.BytealgCompare.compare #[v, u]).run Try.prog w = .ok (.int .i64 (cmpB l m)) w) := run_bcompare h k
  clear h k
  go_enter Try.func22, Try.ntmps22
  go_wp2
  rw [run_callFunc_extern Try.func27 (by kernel_rfl) (by kernel_rfl) (by kernel_rfl) (e := Extern.BytealgCompare.compare) (by kernel_rfl), hr.out]
  simp only [Result.andThen]
  rw [Oper.upon_value]
  go_wp2
  go_ret
  exact ⟨rfl, rfl⟩
def cmpI (a b : Int) : Int := if a < b then -1 else if a > b then 1 else 0
set_option maxRecDepth 100000 in
theorem isnan_ (w : World) (a : Int) : Calls Try.prog 26 #[.int .i64 a] w fun e w' => e = .returned (.bool false) ∧ w = w' := by
  go_enter Try.func26, Try.ntmps26
  go_wp2
  go_ret
  exact ⟨rfl, rfl⟩
set_option maxRecDepth 100000 in
theorem icompare_ (w : World) (a b : Int) : Calls Try.prog 21 #[.int .i64 a, .int .i64 b] w fun e w' => e = .returned (.int .i64 (cmpI a b)) ∧ w = w' := by
  by_cases h1 : a < b
  · have e : cmpI a b = -1 := by unfold cmpI; rw [if_pos h1]
    rw [e]
    have d1 : decide (a < b) = true := by simpa using h1
    go_enter Try.func21, Try.ntmps21
    go_wp2_with (first | (go_at_call 26; refine (isnan_ _ _).mono ?_; rintro e w2 ⟨rfl, rfl⟩))
    go_ret
    exact ⟨rfl, rfl⟩
  · by_cases h2 : a > b
    · have e : cmpI a b = 1 := by unfold cmpI; rw [if_neg h1, if_pos h2]
      rw [e]
      have d1 : decide (a < b) = false := by simpa using h1
      have d2 : decide (a > b) = true := by simpa using h2
      go_enter Try.func21, Try.ntmps21
      go_wp2_with (first | (go_at_call 26; refine (isnan_ _ _).mono ?_; rintro e w2 ⟨rfl, rfl⟩))
      go_ret
      exact ⟨rfl, rfl⟩
    · have e : cmpI a b = 0 := by unfold cmpI; rw [if_neg h1, if_neg h2]
      rw [e]
      have d1 : decide (a < b) = false := by simpa using h1
      have d2 : decide (a > b) = false := by simpa using h2
      go_enter Try.func21, Try.ntmps21
      go_wp2_with (first | (go_at_call 26; refine (isnan_ _ _).mono ?_; rintro e w2 ⟨rfl, rfl⟩))
      go_ret
      exact ⟨rfl, rfl⟩
end Go.Proofs.Ytjoliagnhmfdiaa
