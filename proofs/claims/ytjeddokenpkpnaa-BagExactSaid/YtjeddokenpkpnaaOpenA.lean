/-
  From readings to values: a slice of elements of any kind; messages, steps.
-/
import Derived.Test.YtjeddokenpkpnaaPlayF
import Derived.Test.YtjeddokenpkpnaaOpenBag
namespace Go.Proofs.Ytjeddokenpkpnaa
open Go Go.RowKit Go.ChangeShapes Go.WideShapes
section
variable {H : Type} {enc : TypeId × Value → H} {P : Program} {w : World}
/-- a value that reads as a slice of bytes -/
theorem open_byte3 {T e fuel : Nat} {v : Value} {d : DataW H} {p : List MemPlace} (hT : P.underlying T = some (.slice e)) (he : P.underlying e = some (.int .u8)) (hce : P.cellsOf e = 1)
    (hf : DataW.trod enc P w 0 (fun _ => true) true fuel T [v] = some (d, p)) : ∃ l : List (BitVec 8), RdB w v l := by
  rcases open_ints hT he hce hf with ⟨hcs, hx⟩ | ⟨a, len, cap, zs, hcs, _, hl, hm, hz, hx, hcell, hwz⟩
  · simp only [Prod.mk.injEq, List.cons.injEq, and_true] at hx hcs
    subst hcs
    exact ⟨[], RdB.nil w⟩
  · simp only [Prod.mk.injEq, List.cons.injEq, and_true] at hx hcs
    subst hcs
    simp only [if_true] at hz
    have hlen : ((zs.take len).map fun n => BitVec.ofInt 8 n).length = len := by simp; omega
    refine ⟨(zs.take len).map fun n => BitVec.ofInt 8 n, ⟨some a, cap, by rw [hlen], by omega, hm, fun hp => ?_⟩⟩
    obtain ⟨ab, ao, spot⟩ := a
    have hspot : spot = none := by simpa [Addr.add] using World.cell?_spot (hcell 0 (by omega))
    subst hspot
    refine ⟨ab, ao, rfl, fun i hi => ?_⟩
    rw [hlen] at hi
    have hci := hcell i (by omega)
    rw [Addr.add_lit] at hci
    rw [hci]
    have hiz : i < zs.length := by omega
    have e1 : zs.getD i 0 = zs[i] := by simp [List.getD, List.getElem?_eq_getElem hiz]
    have hb := wf_u8 (hwz zs[i] (List.getElem_mem hiz))
    rw [e1]
    simp only [List.getElem_map, List.getElem_take, U8]
    congr 2
    rw [BitVec.toNat_ofInt]
    omega
/-- a slice of elements, each of so many cells, whose readings tell a thing -/
theorem open_sliceA {α : Type} [Inhabited α] {S E b0 sz : Nat} {v : Value} {d : DataW H} {p : List MemPlace} (f : α → List Value) (R : World → α → Prop) (hA : P.underlying S = some (.slice E)) (hce : P.cellsOf E = sz) (hsz : ∀ x, (f x).length = sz) (hpos : 0 < sz)
    (hel : ∀ fuel cs x, cs.length = sz → DataW.trod enc P w 0 (fun _ => true) true fuel E cs = some x → ∃ o : α, cs = f o ∧ R w o)
    (hv : Value.okWide P w .any b0 S v) (h : DataW.Trod enc P w 0 (fun _ => true) true S v d p) : ∃ os : List α, RdA w sz v (os.map f) ∧ ∀ o ∈ os, R w o := by
  obtain ⟨a1, len, cap, rfl⟩ := okWide_slice hA hv
  obtain ⟨fuel, hf⟩ := h
  rcases Deep.open_slice hA hf with ⟨hcs, hx⟩ | ⟨a, len', cap', m, n, D, Pl, hcs, _, hl, hm, hmm, hx, hel'⟩
  · simp [Value.cells] at hcs
    obtain ⟨rfl, rfl, rfl⟩ := hcs
    exact ⟨[], RdA.nil w sz, fun o ho => by cases ho⟩
  · simp [Value.cells] at hcs
    obtain ⟨rfl, rfl, rfl⟩ := hcs
    simp only [if_true] at hmm
    rw [hce] at hel'
    have hget : ∀ i, i < len → ∃ o : α, (∀ j u, (f o)[j]? = some u → w.cell? (a.add (i * sz + j)) = some u) ∧ R w o := fun i hi => by
      obtain ⟨cs', h1, h2⟩ := hel' i (by omega)
      obtain ⟨_, hl3, h5⟩ := World.cells?_some h1
      obtain ⟨o, rfl, h3⟩ := hel _ _ _ hl3 h2
      refine ⟨o, fun j u hj => ?_, h3⟩
      have hj3 : j < (f o).length := (List.getElem?_eq_some_iff.1 hj).1
      have h6 := h5 j (by rw [← hl3]; exact hj3)
      rw [Addr.add_add] at h6
      rw [h6, hj]
    obtain ⟨L, hL⟩ : ∃ L : Nat → α, ∀ i, i < len → (∀ j u, (f (L i))[j]? = some u → w.cell? (a.add (i * sz + j)) = some u) ∧ R w (L i) :=
      ⟨fun i => if h : i < len then Classical.choose (hget i h) else default, fun i hi => by simp only [dif_pos hi]; exact Classical.choose_spec (hget i hi)⟩
    have hll : (((List.range len).map L).map f).length = len := by simp
    refine ⟨(List.range len).map L, ⟨fun x hx => ?_, some a, cap, by rw [hll], by rw [hll]; omega, hm, fun hp => ?_⟩, fun o ho => ?_⟩
    · obtain ⟨o, _, rfl⟩ := List.mem_map.1 hx; exact hsz o
    · rw [hll] at hp
      obtain ⟨ab, ao, spot⟩ := a
      have hspot : spot = none := by
        obtain ⟨h1, _⟩ := hL 0 hp
        have h0 : 0 < (f (L 0)).length := by rw [hsz]; exact hpos
        simpa [Addr.add] using World.cell?_spot (h1 0 _ (List.getElem?_eq_getElem h0))
      subst hspot
      refine ⟨ab, ao, rfl, fun q x hq => ?_⟩
      have hql := (List.getElem?_eq_some_iff.1 hq).1
      rw [gflat_length (sz := sz) _ (fun x hx => by obtain ⟨o, _, rfl⟩ := List.mem_map.1 hx; exact hsz o), hll] at hql
      have hi : q / sz < len := by rw [Nat.div_lt_iff_lt_mul hpos]; omega
      have h1 := gflat_get (sz := sz) (((List.range len).map L).map f) (q / sz) (by rw [hll]; exact hi) (fun x hx => by obtain ⟨o, _, rfl⟩ := List.mem_map.1 hx; exact hsz o)
      have h2 := (hL (q / sz) hi).1 (q % sz) x (by
        have e : (((List.range len).map L).map f)[q / sz]'(by rw [hll]; exact hi) = f (L (q / sz)) := by simp
        rw [← e, ← h1, List.getElem?_take, if_pos (Nat.mod_lt _ hpos), List.getElem?_drop]
        rw [show q / sz * sz + q % sz = q by rw [Nat.mul_comm]; exact Nat.div_add_mod q sz]
        exact hq)
      rw [Addr.add_lit] at h2
      rw [show q / sz * sz + q % sz = q by rw [Nat.mul_comm]; exact Nat.div_add_mod q sz] at h2
      exact h2
    · obtain ⟨i, hi, rfl⟩ := List.mem_map.1 ho
      exact (hL i (List.mem_range.1 hi)).2
/-- a message -/
theorem open_msg {E ti tb tS fuel : Nat} {f0 f1 f2 f3 : Field} {cs : List Value} {x : DataW H × List MemPlace} (hE : P.underlying E = some (.struct #[f0, f1, f2, f3])) (t0 : f0.type = ti) (t1 : f1.type = ti) (t2 : f2.type = ti) (t3 : f3.type = tS) (o0 : f0.offset = 0) (o1 : f1.offset = 1) (o2 : f2.offset = 2) (o3 : f3.offset = 3)
    (hti : P.underlying ti = some (.int .i64)) (hcti : P.cellsOf ti = 1) (hb : P.underlying tb = some (.int .u8)) (hcb : P.cellsOf tb = 1) (hS : P.underlying tS = some (.slice tb)) (hcS : P.cellsOf tS = 1) (hl : cs.length = 4)
    (h : DataW.trod enc P w 0 (fun _ => true) true fuel E cs = some x) : ∃ m : Ent, cs = m.cells.toList ∧ RdB w m.v m.b := by
  obtain ⟨xs, n, _, rfl, _, hlen, hf⟩ := DataW.trod_struct hE h
  match xs, hlen with
  | [y0, y1, y2, y3], _ =>
    have g0 : DataW.trod enc P w 0 (fun _ => true) true n f0.type ((cs.drop f0.offset).take (P.cellsOf f0.type)) = some y0 := by simpa using hf 0 f0 rfl
    have g1 : DataW.trod enc P w 0 (fun _ => true) true n f1.type ((cs.drop f1.offset).take (P.cellsOf f1.type)) = some y1 := by simpa using hf 1 f1 rfl
    have g2 : DataW.trod enc P w 0 (fun _ => true) true n f2.type ((cs.drop f2.offset).take (P.cellsOf f2.type)) = some y2 := by simpa using hf 2 f2 rfl
    have g3 : DataW.trod enc P w 0 (fun _ => true) true n f3.type ((cs.drop f3.offset).take (P.cellsOf f3.type)) = some y3 := by simpa using hf 3 f3 rfl
    rw [t0, o0, hcti] at g0
    rw [t1, o1, hcti] at g1
    rw [t2, o2, hcti] at g2
    rw [t3, o3, hcS] at g3
    obtain ⟨a0, e0, _⟩ := DataW.trod_int hti g0
    obtain ⟨a1, e1, _⟩ := DataW.trod_int hti g1
    obtain ⟨a2, e2, _⟩ := DataW.trod_int hti g2
    match cs, hl with
    | [c0, c1, c2, c3], _ =>
      simp only [List.drop_zero, List.take_succ_cons, List.take_zero, List.drop_succ_cons, List.cons.injEq, and_true] at e0 e1 e2
      simp only [List.take_succ_cons, List.take_zero, List.drop_succ_cons, List.drop_zero] at g3
      obtain ⟨l, hR⟩ := open_byte3 (d := y3.1) (p := y3.2) hS hb hcb g3
      subst e0 e1 e2
      exact ⟨⟨a0, a1, a2, c3, l⟩, rfl, hR⟩
instance : Inhabited Ent := ⟨⟨0, 0, 0, undef, []⟩⟩
instance : Inhabited Stp := ⟨⟨0, default, 0, 0⟩⟩
theorem open_stp {E tM ti tb tS fuel : Nat} {f0 f1 f2 f3 k0 k1 k2 k3 : Field} {cs : List Value} {x : DataW H × List MemPlace} (hE : P.underlying E = some (.struct #[k0, k1, k2, k3])) (u0 : k0.type = ti) (u1 : k1.type = tM) (u2 : k2.type = ti) (u3 : k3.type = ti) (q0 : k0.offset = 0) (q1 : k1.offset = 1) (q2 : k2.offset = 5) (q3 : k3.offset = 6)
    (hM : P.underlying tM = some (.struct #[f0, f1, f2, f3])) (t0 : f0.type = ti) (t1 : f1.type = ti) (t2 : f2.type = ti) (t3 : f3.type = tS) (o0 : f0.offset = 0) (o1 : f1.offset = 1) (o2 : f2.offset = 2) (o3 : f3.offset = 3)
    (hti : P.underlying ti = some (.int .i64)) (hcti : P.cellsOf ti = 1) (hb : P.underlying tb = some (.int .u8)) (hcb : P.cellsOf tb = 1) (hS : P.underlying tS = some (.slice tb)) (hcS : P.cellsOf tS = 1) (hcM : P.cellsOf tM = 4) (hl : cs.length = 7)
    (h : DataW.trod enc P w 0 (fun _ => true) true fuel E cs = some x) : ∃ s : Stp, cs = s.cells ∧ RdB w s.m.v s.m.b ∧ wfI s.x ∧ wfI s.n := by
  obtain ⟨xs, n, _, rfl, _, hlen, hf⟩ := DataW.trod_struct hE h
  match xs, hlen with
  | [y0, y1, y2, y3], _ =>
    have g0 : DataW.trod enc P w 0 (fun _ => true) true n k0.type ((cs.drop k0.offset).take (P.cellsOf k0.type)) = some y0 := by simpa using hf 0 k0 rfl
    have g1 : DataW.trod enc P w 0 (fun _ => true) true n k1.type ((cs.drop k1.offset).take (P.cellsOf k1.type)) = some y1 := by simpa using hf 1 k1 rfl
    have g2 : DataW.trod enc P w 0 (fun _ => true) true n k2.type ((cs.drop k2.offset).take (P.cellsOf k2.type)) = some y2 := by simpa using hf 2 k2 rfl
    have g3 : DataW.trod enc P w 0 (fun _ => true) true n k3.type ((cs.drop k3.offset).take (P.cellsOf k3.type)) = some y3 := by simpa using hf 3 k3 rfl
    rw [u0, q0, hcti] at g0
    rw [u1, q1, hcM] at g1
    rw [u2, q2, hcti] at g2
    rw [u3, q3, hcti] at g3
    obtain ⟨a0, e0, _⟩ := DataW.trod_int hti g0
    obtain ⟨a2, e2, r2⟩ := DataW.trod_int hti g2
    obtain ⟨a3, e3, r3⟩ := DataW.trod_int hti g3
    match cs, hl with
    | [c0, c1, c2, c3, c4, c5, c6], _ =>
      simp only [List.drop_zero, List.take_succ_cons, List.take_zero, List.drop_succ_cons, List.cons.injEq, and_true] at e0 e2 e3
      simp only [List.take_succ_cons, List.take_zero, List.drop_succ_cons, List.drop_zero] at g1
      obtain ⟨m, hm, hR⟩ := open_msg hM t0 t1 t2 t3 o0 o1 o2 o3 hti hcti hb hcb hS hcS rfl g1
      simp only [Ent.cells, msgC, List.cons.injEq, and_true] at hm
      obtain ⟨rfl, rfl, rfl, rfl⟩ := hm
      subst e0 e2 e3
      exact ⟨⟨a0, m, a2, a3⟩, rfl, hR, r2.2, r3.2⟩
end
end Go.Proofs.Ytjeddokenpkpnaa
