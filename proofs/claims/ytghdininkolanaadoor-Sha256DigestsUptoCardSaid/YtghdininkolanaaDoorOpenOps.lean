/-
  From readings to values: a script of calls (a kind, a number, bytes) that comes in.
-/
import Derived.Test.YtghdininkolanaaDoorLawDigests256
import Derived.Test.YtghdininkolanaaDoorOpenRows
import Derived.Test.YtghdininkolanaaDoorBulk
namespace Go.Proofs.YtghdininkolanaaDoor
open Go Go.RowKit Go.ChangeShapes Go.WideShapes
section
variable {H : Type} {enc : TypeId × Value → H} {P : Program} {w : World}
/-- a value that reads as a slice of bytes -/
theorem open_byte2 {T e fuel : Nat} {v : Value} {d : DataW H} {p : List MemPlace} (hT : P.underlying T = some (.slice e)) (he : P.underlying e = some (.int .u8)) (hce : P.cellsOf e = 1)
    (hf : DataW.trod enc P w 0 (fun _ => true) true fuel T [v] = some (d, p)) :
    ∃ l : List (BitVec 8), RdB w v l ∧ ((d = .nil ∧ l.length = 0) ∨ ∃ e s, d = .slice e s ∧ e.length = l.length) := by
  rcases open_ints hT he hce hf with ⟨hcs, hx⟩ | ⟨a, len, cap, zs, hcs, _, hl, hm, hz, hx, hcell, hwz⟩
  · simp only [Prod.mk.injEq, List.cons.injEq, and_true] at hx hcs
    obtain ⟨rfl, rfl⟩ := hx
    subst hcs
    exact ⟨[], RdB.nil w, .inl ⟨rfl, rfl⟩⟩
  · simp only [Prod.mk.injEq, List.cons.injEq, and_true] at hx hcs
    obtain ⟨rfl, rfl⟩ := hx
    subst hcs
    simp only [if_true] at hz
    have hlen : ((zs.take len).map fun n => BitVec.ofInt 8 n).length = len := by simp; omega
    refine ⟨(zs.take len).map fun n => BitVec.ofInt 8 n, ⟨some a, cap, by rw [hlen], by omega, hm, fun hp => ?_⟩, .inr ⟨_, _, rfl, by simp [lits]⟩⟩
    obtain ⟨ab, ao, spot⟩ := a
    have hspot : spot = none := by simpa [Addr.add] using World.cell?_spot (hcell 0 (by omega))
    subst hspot
    refine ⟨ab, ao, rfl, fun i hi => ?_⟩
    rw [hlen] at hi
    have hci := hcell i (by omega)
    rw [Addr.add_lit] at hci
    rw [hci]
    have hiz : i < zs.length := by omega
    have e1 : zs.getD i 0 = zs[i] := by simp [List.getD, List.getElem?_eq_getElem hiz]
    have hb := wf_u8 (hwz zs[i] (List.getElem_mem hiz))
    rw [e1]
    simp only [List.getElem_map, List.getElem_take, U8]
    congr 2
    rw [BitVec.toNat_ofInt]
    omega
theorem bulk_part {d : DataW H} {l : List (DataW H)} (h : d ∈ l) : Rows.uptoBulk d < Rows.uptoBulk (.agg l) := by
  have := bulk_mem h
  simp only [Rows.uptoBulk]; omega
theorem bulk_elem {d : DataW H} {l s : List (DataW H)} (h : d ∈ l) : Rows.uptoBulk d < Rows.uptoBulk (.slice l s) := by
  have := bulk_mem h
  simp only [Rows.uptoBulk]; omega
theorem open_op {E ti tb tS fuel : Nat} {f0 f1 f2 : Field} {cs : List Value} {x : DataW H × List MemPlace} (hE : P.underlying E = some (.struct #[f0, f1, f2])) (t0 : f0.type = ti) (t1 : f1.type = tb) (t2 : f2.type = tS) (o0 : f0.offset = 0) (o1 : f1.offset = 1) (o2 : f2.offset = 2)
    (hti : P.underlying ti = some (.int .i64)) (hcti : P.cellsOf ti = 1) (hb : P.underlying tb = some (.int .u8)) (hcb : P.cellsOf tb = 1) (hS : P.underlying tS = some (.slice tb)) (hcS : P.cellsOf tS = 1) (hce : P.cellsOf E = 3)
    (h : DataW.trod enc P w 0 (fun _ => true) true fuel E cs = some x) : ∃ (o : DOp) (Av : Option Addr) (cv : Nat), cs = [.int .i64 o.kind, U8 o.who, .slice Av o.data.length cv] ∧ RdB w (.slice Av o.data.length cv) o.data ∧ o.data.length < Rows.uptoBulk x.1 := by
  obtain ⟨xs, n, _, rfl, hl, hlen, hf⟩ := DataW.trod_struct hE h
  match xs, hlen with
  | [y0, y1, y2], _ =>
    have g0 : DataW.trod enc P w 0 (fun _ => true) true n f0.type ((cs.drop f0.offset).take (P.cellsOf f0.type)) = some y0 := by simpa using hf 0 f0 rfl
    have g1 : DataW.trod enc P w 0 (fun _ => true) true n f1.type ((cs.drop f1.offset).take (P.cellsOf f1.type)) = some y1 := by simpa using hf 1 f1 rfl
    have g2 : DataW.trod enc P w 0 (fun _ => true) true n f2.type ((cs.drop f2.offset).take (P.cellsOf f2.type)) = some y2 := by simpa using hf 2 f2 rfl
    rw [t0, o0, hcti] at g0
    rw [t1, o1, hcb] at g1
    rw [t2, o2, hcS] at g2
    obtain ⟨a0, e0, _⟩ := DataW.trod_int hti g0
    obtain ⟨a1, e1, r1⟩ := DataW.trod_int hb g1
    rw [hce] at hl
    match cs, hl with
    | [c0, c1, c2], _ =>
      simp only [List.drop_zero, List.take_succ_cons, List.take_zero, List.drop_succ_cons, List.cons.injEq, and_true] at e0 e1
      simp only [List.take_succ_cons, List.take_zero, List.drop_succ_cons, List.drop_zero] at g2
      obtain ⟨l, hR, hd⟩ := open_byte2 (d := y2.1) (p := y2.2) hS hb hcb g2
      obtain ⟨A, c, e2, _, _⟩ := hR.isSlice
      subst e0 e1 e2
      have hw1 := r1.2
      have hb8 := wf_u8 hw1
      refine ⟨⟨a0, BitVec.ofInt 8 a1, l⟩, A, c, ?_, hR, ?_⟩
      · simp only [U8, BitVec.toNat_ofInt, List.cons.injEq, Value.int.injEq, true_and, and_true]
        omega
      · have h2 : Rows.uptoBulk y2.1 < Rows.uptoBulk (.agg [y0.1, y1.1, y2.1]) := bulk_part (by simp)
        show l.length < Rows.uptoBulk (.agg [y0.1, y1.1, y2.1])
        rcases hd with ⟨hd, h0⟩ | ⟨e, s, hd, h0⟩
        · omega
        · have := bulk_len e
          have h3 : e.length < Rows.uptoBulk y2.1 := by rw [hd]; simp only [Rows.uptoBulk]; omega
          omega
theorem open_ops {S E ti tb tS b0 : Nat} {f0 f1 f2 : Field} {v : Value} {d : DataW H} {p : List MemPlace} (hA : P.underlying S = some (.slice E)) (hE : P.underlying E = some (.struct #[f0, f1, f2])) (t0 : f0.type = ti) (t1 : f1.type = tb) (t2 : f2.type = tS) (o0 : f0.offset = 0) (o1 : f1.offset = 1) (o2 : f2.offset = 2)
    (hti : P.underlying ti = some (.int .i64)) (hcti : P.cellsOf ti = 1) (hb : P.underlying tb = some (.int .u8)) (hcb : P.cellsOf tb = 1) (hS : P.underlying tS = some (.slice tb)) (hcS : P.cellsOf tS = 1) (hce : P.cellsOf E = 3)
    (hv : Value.okWide P w .any b0 S v) (h : DataW.Trod enc P w 0 (fun _ => true) true S v d p) : ∃ os : List DOp, RdO w v os ∧ (∀ N, Rows.uptoBulk d ≤ N → os.length ≤ N ∧ ∀ o ∈ os, o.data.length ≤ N) := by
  obtain ⟨a1, len, cap, rfl⟩ := okWide_slice hA hv
  obtain ⟨fuel, hf⟩ := h
  rcases Deep.open_slice hA hf with ⟨hcs, hx⟩ | ⟨a, len', cap', m, n, D, Pl, hcs, _, hl, hm, hmm, hx, hel⟩
  · simp [Value.cells] at hcs
    obtain ⟨rfl, rfl, rfl⟩ := hcs
    exact ⟨[], ⟨none, 0, rfl, fun h => by simp at h⟩, fun N _ => ⟨by simp, fun o ho => by cases ho⟩⟩
  · simp [Value.cells] at hcs
    obtain ⟨rfl, rfl, rfl⟩ := hcs
    simp only [Prod.mk.injEq] at hx
    obtain ⟨rfl, rfl⟩ := hx
    simp only [if_true] at hmm
    rw [hce] at hel
    have hget : ∀ i, i < len → ∃ o : DOp, (∃ (Av : Option Addr) (cv : Nat), (∀ j u, ([.int .i64 o.kind, U8 o.who, .slice Av o.data.length cv] : List Value)[j]? = some u → w.cell? (a.add (i * 3 + j)) = some u) ∧ RdB w (.slice Av o.data.length cv) o.data) ∧ o.data.length < Rows.uptoBulk (D i) := fun i hi => by
      obtain ⟨cs', h1, h2⟩ := hel i (by omega)
      obtain ⟨o, Av, cv, rfl, h3, h4⟩ := open_op hE t0 t1 t2 o0 o1 o2 hti hcti hb hcb hS hcS hce h2
      obtain ⟨_, hl3, h5⟩ := World.cells?_some h1
      refine ⟨o, ⟨Av, cv, fun j u hj => ?_, h3⟩, h4⟩
      have hj3 : j < 3 := (List.getElem?_eq_some_iff.1 hj).1
      have h6 := h5 j hj3
      rw [Addr.add_add] at h6
      rw [h6, hj]
    obtain ⟨L, hL⟩ : ∃ L : Nat → DOp, ∀ i, i < len → (∃ (Av : Option Addr) (cv : Nat), (∀ j u, ([.int .i64 (L i).kind, U8 (L i).who, .slice Av (L i).data.length cv] : List Value)[j]? = some u → w.cell? (a.add (i * 3 + j)) = some u) ∧ RdB w (.slice Av (L i).data.length cv) (L i).data) ∧ (L i).data.length < Rows.uptoBulk (D i) :=
      ⟨fun i => if h : i < len then Classical.choose (hget i h) else ⟨0, 0, []⟩, fun i hi => by simp only [dif_pos hi]; exact Classical.choose_spec (hget i hi)⟩
    have hll : ((List.range len).map L).length = len := by simp
    refine ⟨(List.range len).map L, ⟨some a, cap, by rw [hll], fun hp => ?_⟩, fun N hN => ⟨?_, fun o ho => ?_⟩⟩
    · obtain ⟨ab, ao, spot⟩ := a
      have hspot : spot = none := by
        obtain ⟨⟨Av, cv, h1, _⟩, _⟩ := hL 0 (by rw [hll] at hp; exact hp)
        simpa [Addr.add] using World.cell?_spot (h1 0 _ rfl)
      subst hspot
      refine ⟨ab, ao, rfl, fun i hi => ?_⟩
      rw [hll] at hi
      have e : ((List.range len).map L)[i]'(by rw [hll]; exact hi) = L i := by simp
      rw [e]
      obtain ⟨⟨Av, cv, h1, h2⟩, _⟩ := hL i hi
      refine ⟨Av, cv, fun j u hj => ?_, h2⟩
      have := h1 j u hj
      rw [Addr.add_lit] at this
      rw [show ao + i * 3 + j = ao + (i * 3 + j) by omega]
      exact this
    · have := bulk_len ((List.range len).map D)
      rw [hll]
      simp only [Rows.uptoBulk, List.length_map, List.length_range] at this hN
      omega
    · obtain ⟨i, hi, rfl⟩ := List.mem_map.1 ho
      have hi' := List.mem_range.1 hi
      have h1 := (hL i hi').2
      have h2 : Rows.uptoBulk (D i) < Rows.uptoBulk (.slice ((List.range len).map D) ((List.range (m - len)).map fun j => D (len + j))) := bulk_elem (List.mem_map.2 ⟨i, hi, rfl⟩)
      omega
end
end Go.Proofs.YtghdininkolanaaDoor
