/-
  List of a bag.
-/
import Derived.Test.YtjeddokenpkpnaaBagL
namespace Go.Proofs.Ytjeddokenpkpnaa
open Go Go.RowKit Go.Proofs Go.Maps
/-- a message, as it is told -/
def Ent.core (e : Ent) : Int × Int × Int × List (BitVec 8) := (e.id, e.fr, e.to, e.b)
/-- messages in a row of one's own, their bodies in rows of one's own -/
structure OwnM (w : World) (B : Nat) (v : Value) (ts : List Ent) : Prop where
  row : OwnA w B 32 4 v (ts.map fun t => t.cells.toList)
  bodies : ∀ t ∈ ts, OwnB w B t.v t.b
  apart : ts.Pairwise (fun a b => ∀ k, a.v.ownBlock = some k → b.v.ownBlock ≠ some k)
theorem OwnM.nil (w : World) (B : Nat) : OwnM w B (.slice none 0 0) [] := ⟨OwnA.nil _ _ _ _, by simp, .nil⟩
/-- the blocks that it has -/
def footM (v : Value) (ts : List Ent) (k : Nat) : Prop := v.ownBlock = some k ∨ ∃ t ∈ ts, t.v.ownBlock = some k
theorem OwnM.upd {w w' : World} {B : Nat} {v : Value} {ts : List Ent} {S : List Nat} (h : OwnM w B v ts) (u : Upd S w w') (hn : ∀ k, footM v ts k → k ∉ S) : OwnM w' B v ts :=
  ⟨h.row.upd u (fun k hk => hn k (.inl hk)), fun t ht => (h.bodies t ht).upd u (fun k hk => hn k (.inr ⟨t, ht, hk⟩)), h.apart⟩
theorem OwnM.upd0 {w w' : World} {B : Nat} {v : Value} {ts : List Ent} (h : OwnM w B v ts) (u : Upd [] w w') : OwnM w' B v ts := h.upd u (by simp)
theorem OwnM.lt {w : World} {B : Nat} {v : Value} {ts : List Ent} (h : OwnM w B v ts) : ∀ k, footM v ts k → B ≤ k ∧ k < w.heap.size := fun k hk => by
  rcases hk with hk | ⟨t, ht, hk⟩
  · exact h.row.lt k hk
  · exact (h.bodies t ht).lt k hk
theorem OwnM.mono {w : World} {B C : Nat} {v : Value} {ts : List Ent} (h : OwnM w B v ts) (hC : ∀ k, footM v ts k → C ≤ k) : OwnM w C v ts :=
  ⟨h.row.mono (fun k hk => hC k (.inl hk)), fun t ht => (h.bodies t ht).mono (fun k hk => hC k (.inr ⟨t, ht, hk⟩)), h.apart⟩
theorem findE_get {es : List Ent} (hr : Rise es) (i : Nat) (hi : i < es.length) : findE es es[i].id = some es[i] := by
  cases hq : findE es es[i].id with
  | none => exact absurd rfl (findE_none hq es[i] (List.getElem_mem hi))
  | some y =>
    obtain ⟨h1, h2⟩ := findE_some hq
    obtain ⟨j, hj, rfl⟩ := List.getElem_of_mem h1
    rcases Nat.lt_trichotomy i j with h | h | h
    · have := List.pairwise_iff_getElem.1 hr i j hi hj h; omega
    · subst h; rfl
    · have := List.pairwise_iff_getElem.1 hr j i hj hi h; omega
theorem bm_ne_row {w : World} {B sz n : Nat} {e : TypeId} {v : Value} {xs : List Value} (h : w.ownsRow B e sz v n xs) {b m : Nat} {D : DataW Value} (hm : w.ownsMap Try.prog 3 readV b m D) : v.ownBlock ≠ some b := by
  intro hk
  rcases h.2 with ⟨rfl, _⟩ | ⟨k, cap, cur, rfl, _, hb, _⟩
  · cases hk
  · simp only [Value.ownBlock, Option.some.injEq] at hk
    subst hk
    exact map_ne hm hb rfl
theorem one_msgL (id fr to : Int) {v : Value} (hv : v.oneCell' = true) : ∀ u ∈ (msgC id fr to v).toList, u.oneCell' = true := by
  intro u hu
  simp only [msgC, List.mem_cons, List.not_mem_nil, or_false] at hu
  rcases hu with rfl | rfl | rfl | rfl
  · rfl
  · rfl
  · rfl
  · exact hv
theorem wpl_look {P : Program} {ops : Array Oper} {rest : List Oper} {a : Act} {w : World} {Q : Exit → Act → World → Prop} {dst : Option Tmp} {ty type : TypeId} {pos : String} {after : Array Edge} {m x : Operand} {vm vx v : Value} (hm : a.eval m = vm) (hx : a.eval x = vx)
    (hrun : (Instr.lookup ty vm vx false).run P w = .ok v w) (h : wpList P ops Q rest (a.put dst v) w) : wpList P ops Q (⟨dst, .lookup ty m x false, type, pos, after, none⟩ :: rest) a w := by
  refine wpList_plain rfl fun K' hK' => ?_
  unfold Oper.wp execOp
  simp only [hm, hx, hrun, Sem.run_bind, Sem.run_pure, Result.andThen_ok]
  exact hK' _ _ h
/-- the look-up without ok, known -/
theorem arm_look1 {ops : Array Oper} {rest : List Oper} {a : Act} {w : World} {Q : Exit → Act → World → Prop} {dst : Option Tmp} {type : TypeId} {pos : String} {after : Array Edge} {m x : Operand} {bm n : Nat} {D : DataW Value} (hm : a.eval m = .map (some bm)) (hown : w.ownsMap Try.prog 3 readV bm n D)
    {id : Int} (hid : wfI id) (hx : a.eval x = .int .i64 id) {c : Array Value} (hc : D.atKey (.int .i64 id) (.held (.agg (msgC 0 0 0 (.slice none 0 0)))) = .held (.agg c))
    (h : wpList Try.prog ops Q rest (a.put dst (.agg c)) w) : wpList Try.prog ops Q (⟨dst, .lookup 67 m x false, type, pos, after, none⟩ :: rest) a w := by
  obtain ⟨v, ps, hrun, hv⟩ := hown.lookup law Try.underlying67 (zero_msg w) (zd := .held (.agg (msgC 0 0 0 (.slice none 0 0)))) (zp := []) rfl (hkey hid)
  rw [hc] at hv
  unfold readV at hv
  injection hv with hv
  injection hv with hv
  injection hv with hv
  rw [hv] at hrun
  exact wpl_look hm hx hrun h
set_option maxRecDepth 100000 in
set_option maxHeartbeats 3200000 in
theorem list_ (w : World) (lo bb bm last : Nat) (es : List Ent) (D : DataW Value) (h : BagAt w lo bb bm last es D) (hlast : last ≤ 100000) :
    Calls Try.prog 10 #[.pointer (some ⟨bb, 0, none⟩)] w fun e w' => ∃ v' ts, e = .returned v' ∧ ts.map Ent.core = es.map Ent.core ∧ OwnM w' w.heap.size v' ts ∧ Upd [] w w' := by
  have H := Lib.hid h
  have HLA := Lib.hid hlast
  clear h hlast
  go_enter Try.func10, Try.ntmps10
  go_wp2_with (fail)
  refine (numbers_ _ lo bb bm last es D H.out).mono ?_
  rintro e w1 ⟨v1, rfl, hI1, hU1⟩
  obtain ⟨A, c, e1⟩ := OwnA.isSlice hI1
  rw [List.length_map, List.length_map] at e1
  have HI1 := Lib.hid hI1
  have HU1 := Lib.hid hU1
  obtain ⟨N, hN⟩ : ∃ n, es.length = n := ⟨_, rfl⟩
  have HN := Lib.hid hN
  have HN4 : Hid (N ≤ 4096) := by show N ≤ 4096; rw [← hN]; exact H.out.room
  rw [hN] at e1
  subst e1
  clear hI1 hU1 hN
  go_wp2_with (fail)
  go_loopw [3, 5, 11] (fun ov xv iv wr => ∃ (i : Nat) (ts : List Ent), iv = .int .i64 i ∧ i ≤ N ∧ OwnM wr w.heap.size ov ts ∧ ts.map Ent.core = (es.take i).map Ent.core ∧ OwnI wr w.heap.size (.slice A N c) (es.map (·.id)) ∧ Upd [] w wr) (fun _ _ iv _ => N - (intOf iv).toNat)
  case atStart => exact ⟨0, [], rfl, Nat.zero_le _, OwnM.nil _ _, by simp, HI1.out, HU1.out⟩
  case round =>
    obtain ⟨i, ts, rfl, hi, hM, hF, hI, hU⟩ := hrel
    have HM := Lib.hid hM
    have HF := Lib.hid hF
    have HI := Lib.hid hI
    have HU := Lib.hid hU
    have HB := Lib.hid (H.out.upd0 hU)
    have HIN := Lib.hid hi
    clear hM hF hI hU hi
    by_cases hlt : i < N
    · have hli : (i : Int) < (N : Int) := by omega
      have hes : i < es.length := by rw [HN.out]; exact hlt
      obtain ⟨y, hy⟩ : ∃ y, es[i] = y := ⟨_, rfl⟩
      have hym : y ∈ es := by rw [← hy]; exact List.getElem_mem hes
      have hf := findE_get H.out.rise i hes
      rw [hy] at hf
      obtain ⟨g, cap, cur, eA, rA⟩ := OwnA.at HI.out (by rw [List.length_map, List.length_map]; omega)
      injection eA with eA eN ec
      clear eN ec rA
      subst eA
      have hcell : wr.cell? ⟨g, i, none⟩ = some (.int .i64 y.id) := by
        have := OwnA.elem HI.out i (by rw [List.length_map, List.length_map]; exact hes) 0 (.int .i64 y.id) (by simp [icell, hy])
        simpa using this
      have hat := HB.out.of.val y.id y (DataW.held (.agg (msgC 0 0 0 (.slice none 0 0)))) hf
      unfold Ent.cells at hat
      have hwf : wfI y.id := wf_small (by have := (H.out.ids y hym).1; omega) (by have := (H.out.ids y hym).2; have := HLA.out; omega)
      have hm := HB.out.map
      have c0 : wr.cell? ⟨bb, 0, none⟩ = some (.map (some bm)) := by rw [cell_of_row _ _ _ _ _ _ HB.out.cells]; rfl
      have HY : Hid (RdB wr y.v y.b ∧ y.b.length ≤ 1024) := ⟨(HB.out.rows y hym).rd, H.out.short y hym⟩
      clear hf
      go_wp2_with (with_reducible refine arm_look1 (by with_unfolding_all exact rfl) hm hwf (by with_unfolding_all exact rfl) hat ?_)
      have HBR := Lib.hid HB.out.rows
      clear hat hwf hm c0 hcell
      refine (own_ _ y.id y.fr y.to y.v y.b HY.out.1 (by have := HY.out.2; omega)).mono ?_
      rintro e w2 ⟨v', rfl, ho2, hU2⟩
      have HM2 := Lib.hid (HM.out.upd0 hU2)
      have hvo : v'.oneCell' = true := by obtain ⟨a, q, e⟩ := ho2.isSlice; rw [e]; rfl
      have HO2 : Hid (OwnB w2 w.heap.size v' y.b) := ho2.mono (fun k hk => by have := (ho2.lt k hk).1; have := HU.out.size; omega)
      have HNW : Hid (∀ k, v'.ownBlock = some k → wr.heap.size ≤ k) := fun k hk => (ho2.lt k hk).1
      have HI2 : Hid (OwnI w2 w.heap.size (.slice (some ⟨g, 0, none⟩) N c) (es.map (·.id))) := HI.out.upd0 hU2
      have HU2 := Lib.hid (HU.out.trans hU2)
      clear ho2 hU2
      have hcs : (msgC y.id y.fr y.to v').size = 4 := rfl
      go_wp2_with (with_reducible refine bsA eltM hcs (by with_unfolding_all exact rfl) ?_)
      intro g3 w3 hg3 k3 hU3
      change w3.heap[g3]? = some (.cells (msgC y.id y.fr y.to v').toList.toArray 32 (0, 0)) at k3
      have hM3 := (HM2.out.upd0 hU3).row
      have hB3 : w.heap.size ≤ w3.heap.size := (HU2.out.trans hU3).size
      have ha3 : ∀ u ∈ (msgC y.id y.fr y.to v').toList, u.oneCell' = true := one_msgL y.id y.fr y.to hvo
      have hl3 : (ts.map fun t => t.cells.toList).length ≤ 1000000 := by
        have := congrArg List.length HF.out
        simp only [List.length_map, List.length_take] at this
        rw [List.length_map, this]; have := HN4.out; omega
      have HU3 := Lib.hid (HU2.out.trans hU3)
      have HM3 := Lib.hid (HM2.out.upd0 hU3)
      have HO3 := Lib.hid (HO2.out.upd0 hU3)
      have HI3 : Hid (OwnI w3 w.heap.size (.slice (some ⟨g, 0, none⟩) N c) (es.map (·.id))) := HI2.out.upd0 hU3
      clear hg3 hU3 hcs hvo
      go_wp2_with (with_reducible refine appendA eltM (by with_unfolding_all exact rfl) (by with_unfolding_all exact rfl) hM3 k3 (by with_unfolding_all exact rfl) ha3 hl3 (by decide) hB3 ?_)
      intro v4 w4 hM4 hU4 hb4
      have hlow : ∀ k, u3.ownBlock = some k → w.heap.size ≤ k := fun k hk => (hM3.lt k hk).1
      have hne : ∀ t ∈ ts, ∀ k, t.v.ownBlock = some k → k ∉ u3.ownBlock.toList := fun t ht k hk hm => hM3.ne_row (HM3.out.bodies t ht) (by decide) k hk (by simpa using hm)
      have hnv : ∀ k, v'.ownBlock = some k → k ∉ u3.ownBlock.toList := fun k hk hm => hM3.ne_row HO3.out (by decide) k hk (by simpa using hm)
      have hni : ∀ k, (Value.slice (some ⟨g, 0, none⟩) N c).ownBlock = some k → k ∉ u3.ownBlock.toList := fun k hk hm => hM3.ne_row (OwnI.own HI3.out) (by decide) k hk (by simpa using hm)
      have HM4 : Hid (OwnM w4 w.heap.size v4 (ts ++ [Ent.mk y.id y.fr y.to v' y.b])) := by
        refine ⟨by rw [List.map_append]; exact hM4, fun t ht => ?_, List.pairwise_append.2 ⟨HM3.out.apart, List.pairwise_singleton _ _, fun a ha b hb k hk => ?_⟩⟩
        · rcases List.mem_append.1 ht with ht | ht
          · exact (HM3.out.bodies t ht).upd hU4 (hne t ht)
          · rw [List.mem_singleton.1 ht]; exact HO3.out.upd hU4 hnv
        · rw [List.mem_singleton.1 hb]
          intro hk2
          have h1 := (HM.out.bodies a ha).lt k hk
          have h2 := HNW.out k hk2
          omega
      have HI4 : Hid (OwnI w4 w.heap.size (.slice (some ⟨g, 0, none⟩) N c) (es.map (·.id))) := HI3.out.upd hU4 hni
      have HU4 : Hid (Upd [] w w4) := HU3.out.trans' hU4 (fun k hm hl => by have := hlow k (by simpa using hm); omega)
      have HF4 : Hid ((ts ++ [Ent.mk y.id y.fr y.to v' y.b]).map Ent.core = (es.take (i + 1)).map Ent.core) := by
        rw [take_snoc' es i hes, List.map_append, List.map_append, HF.out, hy]
        rfl
      clear hM3 hB3 ha3 hl3 hM4 hU4 hb4 hlow hne hnv hni k3
      have hi4 : (i : Int) ≤ 4096 := by have := HN4.out; omega
      go_wp2_with (fail)
      go_roundw
      case rel => exact ⟨i + 1, _, by go_num, by omega, HM4.out, HF4.out, HI4.out, HU4.out⟩
      case measure => simp [intOf]; omega
    · have hli : ¬ (i : Int) < (N : Int) := by omega
      go_wp2_with (fail)
      go_ret
      refine ⟨_, rfl, ts, ?_, HM.out, HU.out⟩
      rw [HF.out, List.take_of_length_le (by have := HN.out; omega)]
end Go.Proofs.Ytjeddokenpkpnaa
