/-
  From readings to values: a script of calls (a kind, two numbers, bytes) that comes in.
-/
import Derived.Test.YtghdininkolanaaDoorLawDigests512
import Derived.Test.YtghdininkolanaaDoorOpenRows
namespace Go.Proofs.YtghdininkolanaaDoor
open Go Go.RowKit Go.ChangeShapes Go.WideShapes
section
variable {H : Type} {enc : TypeId × Value → H} {P : Program} {w : World}
theorem open_qop {E ti tb tS fuel : Nat} {f0 f1 f2 f3 : Field} {cs : List Value} {x : DataW H × List MemPlace} (hE : P.underlying E = some (.struct #[f0, f1, f2, f3])) (t0 : f0.type = ti) (t1 : f1.type = tb) (t2 : f2.type = tb) (t3 : f3.type = tS) (o0 : f0.offset = 0) (o1 : f1.offset = 1) (o2 : f2.offset = 2) (o3 : f3.offset = 3)
    (hti : P.underlying ti = some (.int .i64)) (hcti : P.cellsOf ti = 1) (hb : P.underlying tb = some (.int .u8)) (hcb : P.cellsOf tb = 1) (hbb : P.bytesOf tb = 1) (hS : P.underlying tS = some (.slice tb)) (hcS : P.cellsOf tS = 1) (hce : P.cellsOf E = 4) (hW : Within P E x.1)
    (h : DataW.trod enc P w 0 (fun _ => true) true fuel E cs = some x) : ∃ (o : QOp) (Av : Option Addr) (cv : Nat), cs = [.int .i64 o.kind, U8 o.who, U8 o.frm, .slice Av o.data.length cv] ∧ RdB w (.slice Av o.data.length cv) o.data ∧ o.data.length ≤ 140737488351232 := by
  obtain ⟨xs, n, _, rfl, hl, hlen, hf⟩ := DataW.trod_struct hE h
  match xs, hlen with
  | [y0, y1, y2, y3], _ =>
    have g0 : DataW.trod enc P w 0 (fun _ => true) true n f0.type ((cs.drop f0.offset).take (P.cellsOf f0.type)) = some y0 := by simpa using hf 0 f0 rfl
    have g1 : DataW.trod enc P w 0 (fun _ => true) true n f1.type ((cs.drop f1.offset).take (P.cellsOf f1.type)) = some y1 := by simpa using hf 1 f1 rfl
    have g2 : DataW.trod enc P w 0 (fun _ => true) true n f2.type ((cs.drop f2.offset).take (P.cellsOf f2.type)) = some y2 := by simpa using hf 2 f2 rfl
    have g3 : DataW.trod enc P w 0 (fun _ => true) true n f3.type ((cs.drop f3.offset).take (P.cellsOf f3.type)) = some y3 := by simpa using hf 3 f3 rfl
    rw [t0, o0, hcti] at g0
    rw [t1, o1, hcb] at g1
    rw [t2, o2, hcb] at g2
    rw [t3, o3, hcS] at g3
    have hW3 : Within P tS y3.1 := fun m hm => hW m (by
      simp only [List.map_cons, List.map_nil, DataW.weights, hE, DataW.weightsEach, List.mem_append, t3]
      exact .inr (.inr (.inr (.inl hm))))
    obtain ⟨a0, e0, _⟩ := DataW.trod_int hti g0
    obtain ⟨a1, e1, r1⟩ := DataW.trod_int hb g1
    obtain ⟨a2, e2, r2⟩ := DataW.trod_int hb g2
    rw [hce] at hl
    match cs, hl with
    | [c0, c1, c2, c3], _ =>
      simp only [List.drop_zero, List.take_succ_cons, List.take_zero, List.drop_succ_cons, List.cons.injEq, and_true] at e0 e1 e2
      simp only [List.take_succ_cons, List.take_zero, List.drop_succ_cons, List.drop_zero] at g3
      obtain ⟨l, hR, hd, _⟩ := open_byte1 (d := y3.1) (p := y3.2) hS hb hcb hbb hW3 g3
      obtain ⟨A, c, e3, _, _⟩ := hR.isSlice
      subst e0 e1 e2 e3
      have hb1 := wf_u8 r1.2
      have hb2 := wf_u8 r2.2
      refine ⟨⟨a0, BitVec.ofInt 8 a1, BitVec.ofInt 8 a2, l⟩, A, c, ?_, hR, hd⟩
      simp only [U8, BitVec.toNat_ofInt, List.cons.injEq, Value.int.injEq, true_and, and_true]
      omega
theorem open_qops {S E ti tb tS b0 : Nat} {f0 f1 f2 f3 : Field} {v : Value} {d : DataW H} {p : List MemPlace} (hA : P.underlying S = some (.slice E)) (hE : P.underlying E = some (.struct #[f0, f1, f2, f3])) (t0 : f0.type = ti) (t1 : f1.type = tb) (t2 : f2.type = tb) (t3 : f3.type = tS) (o0 : f0.offset = 0) (o1 : f1.offset = 1) (o2 : f2.offset = 2) (o3 : f3.offset = 3)
    (hti : P.underlying ti = some (.int .i64)) (hcti : P.cellsOf ti = 1) (hb : P.underlying tb = some (.int .u8)) (hcb : P.cellsOf tb = 1) (hbb : P.bytesOf tb = 1) (hS : P.underlying tS = some (.slice tb)) (hcS : P.cellsOf tS = 1) (hce : P.cellsOf E = 4)
    {ts : List TypeId} {ds : List (DataW H)} (hsz : (DataW.weightsEach P ts ds).all (· ≤ reachBytes) = true) (j : Nat) (htj : ts[j]? = some S) (hdj : ds[j]? = some d)
    (hv : Value.okWide P w .any b0 S v) (h : DataW.Trod enc P w 0 (fun _ => true) true S v d p) : ∃ os : List QOp, RdQ w v os ∧ ∀ o ∈ os, o.data.length ≤ 140737488351232 := by
  have hW := within_of hsz htj hdj
  obtain ⟨a1, len, cap, rfl⟩ := okWide_slice hA hv
  obtain ⟨fuel, hf⟩ := h
  rcases Deep.open_slice hA hf with ⟨hcs, hx⟩ | ⟨a, len', cap', m, n, D, Pl, hcs, _, hl, hm, hmm, hx, hel⟩
  · simp [Value.cells] at hcs
    obtain ⟨rfl, rfl, rfl⟩ := hcs
    exact ⟨[], ⟨none, 0, rfl, Nat.le_refl _, by simp [maxLen], fun h => by simp at h⟩, fun o ho => by cases ho⟩
  · simp [Value.cells] at hcs
    obtain ⟨rfl, rfl, rfl⟩ := hcs
    simp only [Prod.mk.injEq] at hx
    obtain ⟨rfl, rfl⟩ := hx
    simp only [if_true] at hmm
    rw [hce] at hel
    have hget : ∀ i, i < len → ∃ o : QOp, (∃ (Av : Option Addr) (cv : Nat), (∀ j u, ([.int .i64 o.kind, U8 o.who, U8 o.frm, .slice Av o.data.length cv] : List Value)[j]? = some u → w.cell? (a.add (i * 4 + j)) = some u) ∧ RdB w (.slice Av o.data.length cv) o.data) ∧ o.data.length ≤ 140737488351232 := fun i hi => by
      obtain ⟨cs', h1, h2⟩ := hel i (by omega)
      have hsub : Within P E (D i) := fun q hq => hW q (by
        simp only [DataW.weights, hA, List.mem_cons, List.mem_append]
        exact .inr (.inl (weightsAll_mem (List.mem_map.2 ⟨i, List.mem_range.2 hi, rfl⟩) q hq)))
      obtain ⟨o, Av, cv, rfl, h3, h4⟩ := open_qop hE t0 t1 t2 t3 o0 o1 o2 o3 hti hcti hb hcb hbb hS hcS hce hsub h2
      obtain ⟨_, hl3, h5⟩ := World.cells?_some h1
      refine ⟨o, ⟨Av, cv, fun j u hj => ?_, h3⟩, h4⟩
      have hj3 : j < 4 := (List.getElem?_eq_some_iff.1 hj).1
      have h6 := h5 j hj3
      rw [Addr.add_add] at h6
      rw [h6, hj]
    obtain ⟨L, hL⟩ : ∃ L : Nat → QOp, ∀ i, i < len → (∃ (Av : Option Addr) (cv : Nat), (∀ j u, ([.int .i64 (L i).kind, U8 (L i).who, U8 (L i).frm, .slice Av (L i).data.length cv] : List Value)[j]? = some u → w.cell? (a.add (i * 4 + j)) = some u) ∧ RdB w (.slice Av (L i).data.length cv) (L i).data) ∧ (L i).data.length ≤ 140737488351232 :=
      ⟨fun i => if h : i < len then Classical.choose (hget i h) else ⟨0, 0, 0, []⟩, fun i hi => by simp only [dif_pos hi]; exact Classical.choose_spec (hget i hi)⟩
    have hll : ((List.range len).map L).length = len := by simp
    refine ⟨(List.range len).map L, ⟨some a, cap, by rw [hll], by omega, hm, fun hp => ?_⟩, fun o ho => ?_⟩
    · obtain ⟨ab, ao, spot⟩ := a
      have hspot : spot = none := by
        obtain ⟨⟨Av, cv, h1, _⟩, _⟩ := hL 0 (by rw [hll] at hp; exact hp)
        simpa [Addr.add] using World.cell?_spot (h1 0 _ rfl)
      subst hspot
      refine ⟨ab, ao, rfl, fun i hi => ?_⟩
      rw [hll] at hi
      have e : ((List.range len).map L)[i]'(by rw [hll]; exact hi) = L i := by simp
      rw [e]
      obtain ⟨⟨Av, cv, h1, h2⟩, _⟩ := hL i hi
      refine ⟨Av, cv, fun j u hj => ?_, h2⟩
      have := h1 j u hj
      rw [Addr.add_lit] at this
      rw [show ao + i * 4 + j = ao + (i * 4 + j) by omega]
      exact this
    · obtain ⟨i, hi, rfl⟩ := List.mem_map.1 ho
      exact (hL i (List.mem_range.1 hi)).2
end
end Go.Proofs.YtghdininkolanaaDoor
