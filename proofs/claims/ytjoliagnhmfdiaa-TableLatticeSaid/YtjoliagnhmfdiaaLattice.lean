/-
  Entries of one certificate are a semilattice under joinE: every part is told by a number, and the join's number is the greater one.
-/
import Derived.Test.YtjoliagnhmfdiaaRefJoin
namespace Go.Proofs.Ytjoliagnhmfdiaa
open Go Go.RowKit Go.Proofs
def num : List (BitVec 8) → Nat
  | [] => 0
  | a :: r => a.toNat * 256 ^ r.length + num r
theorem num_lt : ∀ (l : List (BitVec 8)), num l < 256 ^ l.length
  | [] => by simp [num]
  | a :: r => by
    have h := num_lt r
    have ha := a.isLt
    have : a.toNat + 1 ≤ 256 := by omega
    have h2 := Nat.mul_le_mul_right (256 ^ r.length) this
    rw [num, List.length_cons, Nat.pow_succ]
    rw [Nat.add_mul] at h2
    omega
theorem above_num : ∀ (l m : List (BitVec 8)), l.length = m.length → aboveB l m = decide (num l > num m)
  | [], [], _ => by simp [aboveB, num]
  | [], _ :: _, h => by simp at h
  | _ :: _, [], h => by simp at h
  | a :: r, b :: s, h => by
    have hl : r.length = s.length := by simpa using h
    have ih := above_num r s hl
    have h1 := num_lt r
    have h2 := num_lt s
    rw [aboveB, num, num, hl]
    rw [hl] at h1
    generalize 256 ^ s.length = B at h1 h2
    by_cases hab : a = b
    · subst hab
      rw [if_pos rfl, ih, Bool.eq_iff_iff, decide_eq_true_eq, decide_eq_true_eq]
      omega
    · have hn : a.toNat ≠ b.toNat := fun h => hab (BitVec.eq_of_toNat_eq h)
      rw [if_neg hab, Bool.eq_iff_iff, decide_eq_true_eq, decide_eq_true_eq, gt_iff_lt, BitVec.lt_def]
      rcases Nat.lt_or_ge a.toNat b.toNat with h3 | h3
      · have h4 := Nat.mul_le_mul_right B (show a.toNat + 1 ≤ b.toNat by omega)
        rw [Nat.add_mul] at h4
        omega
      · have h4 := Nat.mul_le_mul_right B (show b.toNat + 1 ≤ a.toNat by omega)
        rw [Nat.add_mul] at h4
        omega
theorem num_inj : ∀ (l m : List (BitVec 8)), l.length = m.length → num l = num m → l = m
  | [], [], _, _ => rfl
  | [], _ :: _, h, _ => by simp at h
  | _ :: _, [], h, _ => by simp at h
  | a :: r, b :: s, h, e => by
    have hl : r.length = s.length := by simpa using h
    have h1 := num_lt r
    have h2 := num_lt s
    rw [num, num, hl] at e
    rw [hl] at h1
    have hab : a.toNat = b.toNat := by
      generalize 256 ^ s.length = B at h1 h2 e
      rcases Nat.lt_trichotomy a.toNat b.toNat with h3 | h3 | h3
      · have h4 := Nat.mul_le_mul_right B (show a.toNat + 1 ≤ b.toNat by omega)
        rw [Nat.add_mul] at h4
        omega
      · exact h3
      · have h4 := Nat.mul_le_mul_right B (show b.toNat + 1 ≤ a.toNat by omega)
        rw [Nat.add_mul] at h4
        omega
    rw [hab] at e
    rw [BitVec.eq_of_toNat_eq hab, num_inj r s hl (by omega)]
/-- a signature whose flag is false is all 0 -/
def Ent.fit (e : Ent) : Prop := (e.fz = false → e.fs = zeros64) ∧ (e.rv = false → e.rs = zeros64)
def keyM (e : Ent) : Int := e.idx * (256 ^ 32 : Nat) + num e.val
def keyS (x : Bool) (s : List (BitVec 8)) : Int := if x then num s + 1 else 0
theorem joinE_fit (a b : Ent) : (joinE a b).fit := by
  constructor <;> intro h <;> simp only [joinE, Bool.or_eq_false_iff] at h ⊢ <;> simp [sealSig, h.1, h.2]
theorem keyM_join (a b : Ent) (ha : a.ok) (hb : b.ok) : keyM (joinE a b) = max (keyM a) (keyM b) := by
  have h := above_num b.val a.val (by rw [ha.2.1, hb.2.1])
  have ha' := num_lt a.val
  have hb' := num_lt b.val
  rw [ha.2.1] at ha'
  rw [hb.2.1] at hb'
  have ht : takes a b = decide (keyM b > keyM a) := by
    unfold takes keyM
    rw [h, Bool.eq_iff_iff]
    simp only [Bool.or_eq_true, Bool.and_eq_true, decide_eq_true_eq, beq_iff_eq]
    omega
  simp only [joinE, keyM] at ht ⊢
  rw [ht]
  by_cases hc : b.idx * ((256 ^ 32 : Nat) : Int) + (num b.val : Int) > a.idx * ((256 ^ 32 : Nat) : Int) + (num a.val : Int)
  · simp only [hc, decide_true, if_true]
    omega
  · simp only [hc, decide_false, Bool.false_eq_true, if_false]
    omega
theorem keyS_join (x : Bool) (s : List (BitVec 8)) (y : Bool) (t : List (BitVec 8)) (hs : s.length = 64) (ht : t.length = 64) : keyS (x || y) (sealSig x s y t) = max (keyS x s) (keyS y t) := by
  have h := above_num s t (by rw [hs, ht])
  cases x <;> cases y <;> simp only [keyS, sealSig, Bool.or_true, Bool.or_false, Bool.and_true, Bool.and_false, if_true, Bool.false_eq_true, if_false]
  · rfl
  · omega
  · omega
  · rw [h]
    by_cases hc : num s > num t
    · simp only [hc, decide_true, if_true]
      omega
    · simp only [hc, decide_false, Bool.false_eq_true, if_false]
      omega
theorem keyM_inj (a b : Ent) (ha : a.ok) (hb : b.ok) (h : keyM a = keyM b) : a.idx = b.idx ∧ a.val = b.val := by
  have ha' := num_lt a.val
  have hb' := num_lt b.val
  rw [ha.2.1] at ha'
  rw [hb.2.1] at hb'
  unfold keyM at h
  have h1 : a.idx = b.idx := by omega
  have h2 : num a.val = num b.val := by rw [h1] at h; omega
  exact ⟨h1, num_inj _ _ (by rw [ha.2.1, hb.2.1]) h2⟩
theorem keyS_inj (x : Bool) (s : List (BitVec 8)) (y : Bool) (t : List (BitVec 8)) (hl : s.length = t.length) (hx : x = false → s = zeros64) (hy : y = false → t = zeros64) (h : keyS x s = keyS y t) : x = y ∧ s = t := by
  cases x <;> cases y <;> simp only [keyS, if_true, Bool.false_eq_true, if_false] at h
  · exact ⟨rfl, by rw [hx rfl, hy rfl]⟩
  · omega
  · omega
  · exact ⟨rfl, num_inj _ _ hl (by omega)⟩
theorem ent_ext (a b : Ent) (ha : a.ok) (hb : b.ok) (fa : a.fit) (fb : b.fit) (hc : a.crt = b.crt) (h1 : keyM a = keyM b) (h2 : keyS a.fz a.fs = keyS b.fz b.fs) (h3 : keyS a.rv a.rs = keyS b.rv b.rs) : a = b := by
  obtain ⟨e1, e2⟩ := keyM_inj a b ha hb h1
  obtain ⟨e3, e4⟩ := keyS_inj _ _ _ _ (by rw [ha.2.2.1, hb.2.2.1]) fa.1 fb.1 h2
  obtain ⟨e5, e6⟩ := keyS_inj _ _ _ _ (by rw [ha.2.2.2, hb.2.2.2]) fa.2 fb.2 h3
  cases a; cases b
  simp only at hc e1 e2 e3 e4 e5 e6
  subst hc e1 e2 e3 e4 e5 e6
  rfl
theorem joinE_keys (a b : Ent) (ha : a.ok) (hb : b.ok) : keyM (joinE a b) = max (keyM a) (keyM b) ∧ keyS (joinE a b).fz (joinE a b).fs = max (keyS a.fz a.fs) (keyS b.fz b.fs) ∧ keyS (joinE a b).rv (joinE a b).rs = max (keyS a.rv a.rs) (keyS b.rv b.rs) :=
  ⟨keyM_join a b ha hb, keyS_join _ _ _ _ ha.2.2.1 hb.2.2.1, keyS_join _ _ _ _ ha.2.2.2 hb.2.2.2⟩
theorem joinE_crt (a b : Ent) : (joinE a b).crt = a.crt := rfl
theorem joinE_comm (a b : Ent) (ha : a.ok) (hb : b.ok) (hc : a.crt = b.crt) : joinE a b = joinE b a := by
  obtain ⟨p1, p2, p3⟩ := joinE_keys a b ha hb
  obtain ⟨q1, q2, q3⟩ := joinE_keys b a hb ha
  exact ent_ext _ _ (joinE_ok ha hb) (joinE_ok hb ha) (joinE_fit a b) (joinE_fit b a) (by rw [joinE_crt, joinE_crt, hc]) (by rw [p1, q1, Int.max_comm]) (by rw [p2, q2, Int.max_comm]) (by rw [p3, q3, Int.max_comm])
theorem joinE_assoc (a b c : Ent) (ha : a.ok) (hb : b.ok) (hc : c.ok) : joinE (joinE a b) c = joinE a (joinE b c) := by
  obtain ⟨p1, p2, p3⟩ := joinE_keys a b ha hb
  obtain ⟨q1, q2, q3⟩ := joinE_keys b c hb hc
  obtain ⟨r1, r2, r3⟩ := joinE_keys (joinE a b) c (joinE_ok ha hb) hc
  obtain ⟨s1, s2, s3⟩ := joinE_keys a (joinE b c) ha (joinE_ok hb hc)
  exact ent_ext _ _ (joinE_ok (joinE_ok ha hb) hc) (joinE_ok ha (joinE_ok hb hc)) (joinE_fit _ _) (joinE_fit _ _) (by rw [joinE_crt, joinE_crt, joinE_crt]) (by rw [r1, p1, s1, q1, Int.max_assoc]) (by rw [r2, p2, s2, q2, Int.max_assoc]) (by rw [r3, p3, s3, q3, Int.max_assoc])
theorem joinE_self (a : Ent) (ha : a.ok) (fa : a.fit) : joinE a a = a := by
  obtain ⟨p1, p2, p3⟩ := joinE_keys a a ha ha
  exact ent_ext _ _ (joinE_ok ha ha) ha (joinE_fit a a) fa (joinE_crt a a) (by rw [p1, Int.max_self]) (by rw [p2, Int.max_self]) (by rw [p3, Int.max_self])
/-- what covers is what the join does not change -/
theorem cov_refl (a : Ent) (ha : a.ok) (fa : a.fit) : joinE a a = a := joinE_self a ha fa
theorem cov_left (a b : Ent) (ha : a.ok) (hb : b.ok) (fa : a.fit) : joinE (joinE a b) a = joinE a b := by
  rw [joinE_comm _ a (joinE_ok ha hb) ha rfl, ← joinE_assoc a a b ha ha hb, joinE_self a ha fa]
theorem cov_right (a b : Ent) (ha : a.ok) (hb : b.ok) (fb : b.fit) : joinE (joinE a b) b = joinE a b := by
  rw [joinE_assoc a b b ha hb hb, joinE_self b hb fb]
theorem cov_lub (a b c : Ent) (ha : a.ok) (hb : b.ok) (hc : c.ok) (h1 : joinE c a = c) (h2 : joinE c b = c) : joinE c (joinE a b) = c := by
  rw [← joinE_assoc c a b hc ha hb, h1, h2]
theorem cov_anti (a b : Ent) (ha : a.ok) (hb : b.ok) (hc : a.crt = b.crt) (h1 : joinE a b = a) (h2 : joinE b a = b) : a = b := by
  rw [← h1, joinE_comm a b ha hb hc, h2]
theorem cov_trans (a b c : Ent) (ha : a.ok) (hb : b.ok) (hc : c.ok) (h1 : joinE a b = a) (h2 : joinE b c = b) : joinE a c = a := by
  have h3 := joinE_assoc a b c ha hb hc
  rw [h1, h2, h1] at h3
  exact h3
end Go.Proofs.Ytjoliagnhmfdiaa
