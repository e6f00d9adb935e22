/-
  The document's Join; reads and stores of an entry's parts.
-/
import Derived.Test.YtjoliagnhmfdiaaEntSet
namespace Go.Proofs.Ytjoliagnhmfdiaa
open Go Go.RowKit Go.Proofs
theorem arm_store_part {P : Program} {ops : Array Oper} {rest : List Oper} {a : Act} {w : World} {Q : Exit → Act → World → Prop} {dst : Option Tmp} {ty type : TypeId} {pos : String} {after : Array Edge} {x y : Operand} {g k : Nat} {t : TypeId} {L cs : List Value} {v : Value}
    (hx : a.eval x = .pointer (some ⟨g, k, none⟩)) (hy : a.eval y = v) (hg : w.heap[g]? = some (.cells L.toArray t (0, 0))) (hcs : v.cells.toList = cs) (hk : k + cs.length ≤ L.length) (hi : (P.info? ty).map (·.size) = some cs.length) (h1 : ∀ u ∈ cs, u.oneCell' = true)
    (h : ∀ w', w'.heap[g]? = some (.cells (splice L k cs).toArray t (0, 0)) → Upd [g] w w' → w'.heap.size = w.heap.size → wpList P ops Q rest (a.put dst undef) w') : wpList P ops Q (⟨dst, .store ty x y, type, pos, after, none⟩ :: rest) a w := by
  refine wpList_plain rfl fun K hK => ?_
  have hs : (storeVar ty ⟨g, k, none⟩ v).run P w = .ok () (w.setCells g k cs) := by
    have := run_storeVar_mid (P := P) w g k ty cs.toArray (there_of_row hg k cs.length hk) (by simpa using hi) (by rw [Array.all_eq_true]; intro i hi; exact h1 _ (by simp))
    have e : storeVar ty ⟨g, k, none⟩ v = storeVar ty ⟨g, k, none⟩ (.agg cs.toArray) := by
      unfold storeVar
      have : v.cells = cs.toArray := Array.ext' hcs
      rw [this]
      rfl
    rw [e, this]
  unfold Oper.wp execOp
  simp only [hx, hy, Instr.storeAt, Instr.sureAddr, Sem.run_bind, Sem.run_pure, Result.andThen_ok, hs]
  exact hK _ _ (h _ (setCells_heap g cs k w L hk hg) ((Upd.refl _ w).setCells g k _ (by simp)) (setCells_size g _ k w))
theorem arm_load_mid {P : Program} {ops : Array Oper} {rest : List Oper} {a : Act} {w : World} {Q : Exit → Act → World → Prop} {dst : Option Tmp} {ty type : TypeId} {pos : String} {after : Array Edge} {x : Operand} {g k : Nat} {cs : List Value} {d : TypeDesc}
    (hx : a.eval x = .pointer (some ⟨g, k, none⟩)) (hr : w.rangeAt g k cs) (hu : P.underlying ty = some d) (hd : d.isRow = true) (hi : (P.info? ty).map (·.size) = some cs.length)
    (h : wpList P ops Q rest (a.put dst (.agg cs.toArray)) w) : wpList P ops Q (⟨dst, .load ty x, type, pos, after, none⟩ :: rest) a w := by
  refine wpList_plain rfl fun K hK => ?_
  unfold Oper.wp execOp
  simp only [hx, Instr.loadAt, Instr.sureAddr, Sem.run_bind, Sem.run_pure, Result.andThen_ok, run_loadVar_mid w g k ty cs d hr hu hd hi]
  exact hK _ _ h
theorem arm_build3 {P : Program} {ops : Array Oper} {rest : List Oper} {a : Act} {w : World} {Q : Exit → Act → World → Prop} {dst : Option Tmp} {ty type : TypeId} {pos : String} {after : Array Edge} {x0 x1 x2 : Operand} {v0 v1 v2 : Value} {cs : Array Value}
    (h0 : a.eval x0 = v0) (h1 : a.eval x1 = v1) (h2 : a.eval x2 = v2) (hf : P.built ty [(0, v0), (1, v1), (2, v2)] = some cs) (h : wpList P ops Q rest (a.put dst (.agg cs)) w) : wpList P ops Q (⟨dst, .build ty #[(0, x0), (1, x1), (2, x2)], type, pos, after, none⟩ :: rest) a w := by
  subst h0 h1 h2
  exact arm_build (by simpa using hf) h
theorem one_map {l : List (BitVec 8)} {vb : List Value} (h : l.map U8 = vb) : ∀ u ∈ vb, u.oneCell' = true := by
  subst h
  intro u hu
  obtain ⟨b, _, rfl⟩ := List.mem_map.1 hu
  rfl
theorem one_list1 {v : Value} (h : v.oneCell' = true) : ∀ u ∈ [v], u.oneCell' = true := fun u hu => by rw [List.mem_singleton.1 hu]; exact h
def EntAt (w : World) (g : Nat) (e : Ent) : Prop := w.heap[g]? = some (.cells (entC e).toArray 29 (0, 0))
theorem EntAt.upd {w w' : World} {g : Nat} {e : Ent} {S : List Nat} (h : EntAt w g e) (u : Upd S w w') (hn : g ∉ S) : EntAt w' g e := u.heap h hn
theorem EntAt.range {w : World} {g : Nat} {e : Ent} (h : EntAt w g e) (o n : Nat) (l : List Value) (hl : ((entC e).drop o).take n = l) (hn : o + n ≤ (entC e).length) : w.rangeAt g o l := by
  subst hl
  refine range_of_row h o _ ⟨(entC e).take o, (entC e).drop (o + n), ?_, by simp; omega⟩
  rw [List.append_assoc, ← List.drop_drop, List.take_append_drop, List.take_append_drop]
theorem EntAt.cell {w : World} {g : Nat} {e : Ent} (h : EntAt w g e) (o : Nat) (v : Value) (hv : (entC e)[o]? = some v) : w.cell? ⟨g, o, none⟩ = some v := by
  rw [cell_of_row _ _ _ _ _ _ h]; simpa using hv
theorem EntAt.crt {w : World} {g : Nat} {e : Ent} (h : EntAt w g e) (k : e.ok) : w.rangeAt g 0 (crtC e.crt) := h.range 0 99 _ (ent_parts e k).2.1 (by rw [entC_length k]; omega)
theorem EntAt.idx {w : World} {g : Nat} {e : Ent} (h : EntAt w g e) (k : e.ok) : w.cell? ⟨g, 99, none⟩ = some (.int .i64 e.idx) := h.cell 99 _ (ent_parts e k).2.2.1
theorem EntAt.val {w : World} {g : Nat} {e : Ent} (h : EntAt w g e) (k : e.ok) : w.rangeAt g 100 (e.val.map U8) := h.range 100 32 _ (ent_parts e k).2.2.2.1 (by rw [entC_length k]; omega)
theorem EntAt.fz {w : World} {g : Nat} {e : Ent} (h : EntAt w g e) (k : e.ok) : w.cell? ⟨g, 132, none⟩ = some (.bool e.fz) := h.cell 132 _ (ent_parts e k).2.2.2.2.1
theorem EntAt.fs {w : World} {g : Nat} {e : Ent} (h : EntAt w g e) (k : e.ok) : w.rangeAt g 133 (e.fs.map U8) := h.range 133 64 _ (ent_parts e k).2.2.2.2.2.1 (by rw [entC_length k]; omega)
theorem EntAt.rv {w : World} {g : Nat} {e : Ent} (h : EntAt w g e) (k : e.ok) : w.cell? ⟨g, 197, none⟩ = some (.bool e.rv) := h.cell 197 _ (ent_parts e k).2.2.2.2.2.2.1
theorem EntAt.rs {w : World} {g : Nat} {e : Ent} (h : EntAt w g e) (k : e.ok) : w.rangeAt g 198 (e.rs.map U8) := h.range 198 64 _ (ent_parts e k).2.2.2.2.2.2.2 (by rw [entC_length k]; omega)
theorem rd_range {w : World} {g o n : Nat} {l : List (BitVec 8)} (h : w.rangeAt g o (l.map U8)) (hn : l.length = n) (hm : n ≤ maxLen) : RdB w (.slice (some ⟨g, o, none⟩) n n) l := by
  subst hn
  refine RdB.mk (Nat.le_refl _) hm (fun i hi => ?_)
  exact h i (U8 l[i]) (by simp [hi])
theorem results_agg_tmp {P : Program} {fn : Func} {p u : Tmp} {ty : TypeId} (h : fn.results = #[.cell p ty, .tmp u]) (tmps : Array Value) (w : World) (g : Nat) (t : TypeId) (cs : Array Value) (fr : Nat × Nat) (d : TypeDesc)
    (hp : tmps.getD p undef = .pointer (some ⟨g, 0, none⟩)) (hg : w.heap[g]? = some (.cells cs t fr))
    (hu : P.underlying ty = some d) (hd : (match d with | .struct _ | .array _ _ => true | _ => false) = true) (hi : (P.info? ty).map (·.size) = some cs.size) {v0 : Value} (hv : tmps.getD u undef = v0) :
    (results fn tmps).run P w = .ok (.tuple #[.agg cs, v0]) w := by
  subst hv
  have hp' : tmps[p]?.getD undef = .pointer (some ⟨g, 0, none⟩) := by simpa using hp
  simp [results, h, hp', asAddr, run_loadVar_row w g t ty cs fr d hg hu hd hi, Sem.run_bind, Result.andThen]
def takes (a b : Ent) : Bool := decide (b.idx > a.idx) || ((b.idx == a.idx) && aboveB b.val a.val)
def joinE (a b : Ent) : Ent := ⟨a.crt, if takes a b then b.idx else a.idx, if takes a b then b.val else a.val, a.fz || b.fz, sealSig a.fz a.fs b.fz b.fs, a.rv || b.rv, sealSig a.rv a.rs b.rv b.rs⟩
theorem sealSig_len (a : Bool) (s : List (BitVec 8)) (b : Bool) (t : List (BitVec 8)) (hs : s.length = 64) (ht : t.length = 64) : (sealSig a s b t).length = 64 := by
  unfold sealSig
  repeat' split
  all_goals first | exact hs | exact ht | exact zeros64_len
theorem joinE_ok {a b : Ent} (ha : a.ok) (hb : b.ok) : (joinE a b).ok := by
  refine ⟨ha.1, ?_, sealSig_len _ _ _ _ ha.2.2.1 hb.2.2.1, sealSig_len _ _ _ _ ha.2.2.2 hb.2.2.2⟩
  simp only [joinE]
  split
  · exact hb.2.1
  · exact ha.2.1
theorem szent {e : Ent} (h : e.ok) : (Try.prog.info? 29).map (·.size) = some (entC e).toArray.size := by rw [size_ent]; simp [entC_length h]
theorem szcrt {c : Crt} (h : c.ok) : (Try.prog.info? 27).map (·.size) = some (crtC c).length := by rw [size_crt, crtC_length h]
theorem szh {l : List (BitVec 8)} (h : l.length = 32) : (Try.prog.info? 23).map (·.size) = some (l.map U8).length := by rw [size_hash32]; simp [h]
theorem szg {l : List (BitVec 8)} (h : l.length = 64) : (Try.prog.info? 25).map (·.size) = some (l.map U8).length := by rw [size_sig]; simp [h]
theorem samez {e f : Ent} (h : e.ok) (k : f.ok) : (entC e).toArray.size = (entC f).toArray.size := by simp [entC_length h, entC_length k]
set_option maxRecDepth 100000 in
set_option maxHeartbeats 12800000 in
theorem refjoin_other (w : World) (a b : Ent) (ha : a.ok) (hb : b.ok) (hc : crtEq a.crt b.crt = false) :
    Calls Try.prog 6 #[.agg (entC a).toArray, .agg (entC b).toArray] w fun e w' => e = .returned (.tuple #[.agg (entC zeroEnt).toArray, .int .i64 171]) ∧ Upd [] w w' := by
  have hq := fun W => neq_crt W a.crt b.crt ha.1 hb.1
  rw [hc] at hq
  have hgd := guard_crt
  have hsa := szcrt ha.1
  have hsb := szcrt hb.1
  have hsz := szent zeroEnt_ok
  have haz := all_of_one (entC_one zeroEnt)
  have hb0 := built_ent0
  have HA := Lib.hid ha
  have HB := Lib.hid hb
  obtain ⟨la, hla⟩ : ∃ l, crtC a.crt = l := ⟨_, rfl⟩
  obtain ⟨lb, hlb⟩ : ∃ l, crtC b.crt = l := ⟨_, rfl⟩
  obtain ⟨ca, hca⟩ : ∃ l, (entC a).toArray = l := ⟨_, rfl⟩
  obtain ⟨cb, hcb⟩ : ∃ l, (entC b).toArray = l := ⟨_, rfl⟩
  obtain ⟨cz, hcz⟩ : ∃ l, (entC zeroEnt).toArray = l := ⟨_, rfl⟩
  have HZZ : Hid (∀ W, (zeroValue 29).run Try.prog W = .ok (.agg cz) W) := fun W => by rw [← hcz]; exact zero_ent W
  rw [hla] at hq hsa
  rw [hlb] at hq hsb
  rw [hcz] at hsz haz hb0 ⊢
  rw [hca, hcb]
  have HLA := Lib.hid hla
  have HLB := Lib.hid hlb
  have HCA := Lib.hid hca
  have HCB := Lib.hid hcb
  clear ha hb hc hla hlb hca hcb hcz
  go_enter Try.func6, Try.ntmps6
  go_wp2_with (with_reducible refine arm_box (by with_unfolding_all exact rfl) ?_)
  intro b2 w2 hb2 k2 hU2 hz2
  change w2.heap[b2]? = some (.cells ca 29 (0, 0)) at k2
  go_wp2_with (with_reducible refine arm_box (by with_unfolding_all exact rfl) ?_)
  intro b3 w3 hb3 k3 hU3 hz3
  change w3.heap[b3]? = some (.cells cb 29 (0, 0)) at k3
  go_wp2_with (with_reducible refine arm_alloc (HZZ.out _) ?_)
  intro b4 w4 hb4 k4 hU4 hz4
  change w4.heap[b4]? = some (.cells cz 29 (0, 0)) at k4
  have k2' := hU4.heap (hU3.heap k2 (by simp)) (by simp)
  have k3' := hU4.heap k3 (by simp)
  clear k2 k3
  have k2 : EntAt w4 b2 a := by unfold EntAt; rw [HCA.out]; exact k2'
  have k3 : EntAt w4 b3 b := by unfold EntAt; rw [HCB.out]; exact k3'
  have hV4 := (hU2.trans hU3).trans hU4
  have hl4 : w.heap.size ≤ b4 := by have h1 := hU2.size; have h2 := hU3.size; omega
  clear k2' k3' hb2 hU2 hz2 hb3 hU3 hz3 hb4 hU4 hz4
  have r2 := k2.crt HA.out
  have r3 := k3.crt HB.out
  rw [HLA.out] at r2
  rw [HLB.out] at r3
  go_wp2_with (first
    | (with_reducible refine arm_load_mid (g := b2) (k := 0) (by with_unfolding_all exact rfl) r2 Try.underlying27 rfl hsa ?_)
    | (with_reducible refine arm_load_mid (g := b3) (k := 0) (by with_unfolding_all exact rfl) r3 Try.underlying27 rfl hsb ?_)
    | (with_reducible refine arm_build0 hb0 ?_)
    | (with_reducible refine arm_store (by with_unfolding_all exact rfl) (by with_unfolding_all exact rfl) k4 hsz rfl haz ?_))
  intro w5 k5 hX5 hz5
  go_wp2_with (fail)
  refine bodyPost_ret (v := .tuple #[.agg cz, .int .i64 171]) (results_agg_tmp rfl _ _ b4 29 _ (0, 0) _ rfl k5 Try.underlying29 rfl hsz rfl) rfl ⟨rfl, ?_⟩
  exact hV4.trans' hX5 (fun i hm hi => by simp at hm; omega)
set_option maxRecDepth 100000 in
set_option maxHeartbeats 25600000 in
theorem refjoin_same (w : World) (a b : Ent) (ha : a.ok) (hb : b.ok) (hc : crtEq a.crt b.crt = true) :
    Calls Try.prog 6 #[.agg (entC a).toArray, .agg (entC b).toArray] w fun e w' => e = .returned (.tuple #[.agg (entC (joinE a b)).toArray, .int .i64 0]) ∧ Upd [] w w' := by
  have hq := fun W => neq_crt W a.crt b.crt ha.1 hb.1
  rw [hc] at hq
  have hgd := guard_crt
  have hsa := szcrt ha.1
  have hsb := szcrt hb.1
  have hsva := szh ha.2.1
  have hsvb := szh hb.2.1
  have hsfa := szg ha.2.2.1
  have hsfb := szg hb.2.2.1
  have hsra := szg ha.2.2.2
  have hsrb := szg hb.2.2.2
  have z := zeroEnt_ok
  have hb3 := built_ent3 a.crt ha.1 a.idx a.val ha.2.1
  obtain ⟨e1, he1⟩ : ∃ e, ({ zeroEnt with crt := a.crt, idx := a.idx, val := a.val } : Ent) = e := ⟨_, rfl⟩
  have o1 : e1.ok := by rw [← he1]; exact ⟨ha.1, ha.2.1, z.2.2⟩
  rw [he1] at hb3
  have hs1 := szent o1
  have ho1 := samez z o1
  have ha1 := all_of_one (entC_one e1)
  obtain ⟨cz, hcz⟩ : ∃ l, (entC zeroEnt).toArray = l := ⟨_, rfl⟩
  have HZZ : Hid (∀ W, (zeroValue 29).run Try.prog W = .ok (.agg cz) W) := fun W => by rw [← hcz]; exact zero_ent W
  have hoJ := samez z (joinE_ok ha hb)
  have hsJ := szent (joinE_ok ha hb)
  have haJ := all_of_one (entC_one (joinE a b))
  rw [hcz] at ho1 hoJ
  have HSE1 : Hid (∀ W, Calls Try.prog 18 #[.bool a.fz, .agg (a.fs.map U8).toArray, .bool b.fz, .agg (b.fs.map U8).toArray] W fun e w' => e = .returned (.tuple #[.bool (a.fz || b.fz), .agg ((sealSig a.fz a.fs b.fz b.fs).map U8).toArray]) ∧ Upd [] W w') := fun W => sealed_ W a.fz b.fz a.fs b.fs ha.2.2.1 hb.2.2.1
  have HSE2 : Hid (∀ W, Calls Try.prog 18 #[.bool a.rv, .agg (a.rs.map U8).toArray, .bool b.rv, .agg (b.rs.map U8).toArray] W fun e w' => e = .returned (.tuple #[.bool (a.rv || b.rv), .agg ((sealSig a.rv a.rs b.rv b.rs).map U8).toArray]) ∧ Upd [] W w') := fun W => sealed_ W a.rv b.rv a.rs b.rs ha.2.2.2 hb.2.2.2
  have HSL1 : Hid ((sealSig a.fz a.fs b.fz b.fs).length = 64) := sealSig_len _ _ _ _ ha.2.2.1 hb.2.2.1
  have HSL2 : Hid ((sealSig a.rv a.rs b.rv b.rs).length = 64) := sealSig_len _ _ _ _ ha.2.2.2 hb.2.2.2
  have HA := Lib.hid ha
  have HB := Lib.hid hb
  have HTK : Hid (takes a b = (decide (b.idx > a.idx) || ((b.idx == a.idx) && aboveB b.val a.val))) := rfl
  obtain ⟨F1, hF1⟩ : ∃ l, (sealSig a.fz a.fs b.fz b.fs) = l := ⟨_, rfl⟩
  obtain ⟨F2, hF2⟩ : ∃ l, (sealSig a.rv a.rs b.rv b.rs) = l := ⟨_, rfl⟩
  obtain ⟨G1, hG1⟩ : ∃ l, (a.fz || b.fz) = l := ⟨_, rfl⟩
  obtain ⟨G2, hG2⟩ : ∃ l, (a.rv || b.rv) = l := ⟨_, rfl⟩
  obtain ⟨TK, hTK⟩ : ∃ l, takes a b = l := ⟨_, rfl⟩
  have HJ : Hid (joinE a b = ⟨a.crt, if TK then b.idx else a.idx, if TK then b.val else a.val, G1, F1, G2, F2⟩) := by
    show joinE a b = _
    rw [← hTK, ← hF1, ← hF2, ← hG1, ← hG2]; rfl
  rw [hTK] at HTK
  rw [hF1] at HSE1 HSL1
  rw [hF2] at HSE2 HSL2
  rw [hG1] at HSE1
  rw [hG2] at HSE2
  have hg1 := szg HSL1.out
  have hg2 := szg HSL2.out
  obtain ⟨J, hJ⟩ : ∃ J, joinE a b = J := ⟨_, rfl⟩
  rw [hJ] at HJ hoJ hsJ haJ ⊢
  obtain ⟨ai, hai⟩ : ∃ x, a.idx = x := ⟨_, rfl⟩
  obtain ⟨bi, hbi⟩ : ∃ x, b.idx = x := ⟨_, rfl⟩
  rw [hai, hbi] at HTK HJ
  rw [hai] at hb3
  have HAI := Lib.hid hai
  have HBI := Lib.hid hbi
  obtain ⟨la, hla⟩ : ∃ l, crtC a.crt = l := ⟨_, rfl⟩
  obtain ⟨lb, hlb⟩ : ∃ l, crtC b.crt = l := ⟨_, rfl⟩
  obtain ⟨va, hva⟩ : ∃ l, a.val.map U8 = l := ⟨_, rfl⟩
  obtain ⟨vb, hvb⟩ : ∃ l, b.val.map U8 = l := ⟨_, rfl⟩
  obtain ⟨fa, hfa⟩ : ∃ l, a.fs.map U8 = l := ⟨_, rfl⟩
  obtain ⟨fb, hfb⟩ : ∃ l, b.fs.map U8 = l := ⟨_, rfl⟩
  obtain ⟨ra, hra⟩ : ∃ l, a.rs.map U8 = l := ⟨_, rfl⟩
  obtain ⟨rb, hrb⟩ : ∃ l, b.rs.map U8 = l := ⟨_, rfl⟩
  obtain ⟨s1, hs1'⟩ : ∃ l, F1.map U8 = l := ⟨_, rfl⟩
  obtain ⟨s2, hs2'⟩ : ∃ l, F2.map U8 = l := ⟨_, rfl⟩
  obtain ⟨ca, hca⟩ : ∃ l, (entC a).toArray = l := ⟨_, rfl⟩
  obtain ⟨cb, hcb⟩ : ∃ l, (entC b).toArray = l := ⟨_, rfl⟩
  obtain ⟨ce, hce⟩ : ∃ l, (entC e1).toArray = l := ⟨_, rfl⟩
  obtain ⟨cJ, hcJ⟩ : ∃ l, (entC J).toArray = l := ⟨_, rfl⟩
  rw [hla] at hq hsa hb3
  rw [hlb] at hq hsb
  rw [hva] at hsva hb3
  rw [hvb] at hsvb
  rw [hfa] at hsfa HSE1
  rw [hfb] at hsfb HSE1
  rw [hra] at hsra HSE2
  rw [hrb] at hsrb HSE2
  rw [hs1'] at HSE1 hg1
  rw [hs2'] at HSE2 hg2
  rw [hce] at hb3 hs1 ho1 ha1
  rw [hcJ] at hoJ hsJ haJ ⊢
  rw [hca, hcb]
  have HLA := Lib.hid hla
  have HLB := Lib.hid hlb
  have HVA := Lib.hid hva
  have HVB := Lib.hid hvb
  have HFA := Lib.hid hfa
  have HFB := Lib.hid hfb
  have HRA := Lib.hid hra
  have HRB := Lib.hid hrb
  have HS1 := Lib.hid hs1'
  have HS2 := Lib.hid hs2'
  have HCA := Lib.hid hca
  have HCB := Lib.hid hcb
  have HCE := Lib.hid hce
  have HCJ := Lib.hid hcJ
  have HE1 := Lib.hid he1
  have HO1 := Lib.hid o1
  clear ha hb hc hla hlb hva hvb hfa hfb hra hrb hs1' hs2' hca hcb hce hcJ he1 o1 hcz hF1 hF2 hG1 hG2 hTK hJ hai hbi z
  go_enter Try.func6, Try.ntmps6
  go_wp2_with (with_reducible refine arm_box (by with_unfolding_all exact rfl) ?_)
  intro b2 w2 hb2 k2 hU2 hz2
  change w2.heap[b2]? = some (.cells ca 29 (0, 0)) at k2
  go_wp2_with (with_reducible refine arm_box (by with_unfolding_all exact rfl) ?_)
  intro b3 w3 hb3 k3 hU3 hz3
  change w3.heap[b3]? = some (.cells cb 29 (0, 0)) at k3
  go_wp2_with (with_reducible refine arm_alloc (HZZ.out _) ?_)
  intro b4 w4 hb4 k4 hU4 hz4
  change w4.heap[b4]? = some (.cells cz 29 (0, 0)) at k4
  have k2' := hU4.heap (hU3.heap k2 (by simp)) (by simp)
  have k3' := hU4.heap k3 (by simp)
  clear k2 k3
  have k2 : EntAt w4 b2 a := by unfold EntAt; rw [HCA.out]; exact k2'
  have k3 : EntAt w4 b3 b := by unfold EntAt; rw [HCB.out]; exact k3'
  have hV4 := (hU2.trans hU3).trans hU4
  have hl4 : w.heap.size ≤ b4 := by have h1 := hU2.size; have h2 := hU3.size; omega
  clear k2' k3' hb2 hU2 hz2 hb3 hU3 hz3 hb4 hU4 hz4
  have r2 := k2.crt HA.out
  have r3 := k3.crt HB.out
  have i2 := k2.idx HA.out
  have x2 := k2.val HA.out
  rw [HLA.out] at r2
  rw [HLB.out] at r3
  rw [HAI.out] at i2
  rw [HVA.out] at x2
  go_wp2_with (first
    | (with_reducible refine arm_load_mid (g := b2) (k := 0) (by with_unfolding_all exact rfl) r2 Try.underlying27 rfl hsa ?_)
    | (with_reducible refine arm_load_mid (g := b3) (k := 0) (by with_unfolding_all exact rfl) r3 Try.underlying27 rfl hsb ?_)
    | (with_reducible refine arm_load_mid (g := b2) (k := 100) (by with_unfolding_all exact rfl) x2 Try.underlying23 rfl hsva ?_)
    | (with_reducible refine arm_build3 (by with_unfolding_all exact rfl) (by with_unfolding_all exact rfl) (by with_unfolding_all exact rfl) hb3 ?_)
    | (with_reducible refine arm_alloc (HZZ.out _) ?_)
    )
  intro b6 w5 hb6 k6 hU5 hz5
  change w5.heap[b6]? = some (.cells cz 29 (0, 0)) at k6
  go_wp2_with (with_reducible refine arm_store (by with_unfolding_all exact rfl) (by with_unfolding_all exact rfl) k6 hs1 ho1 ha1 ?_)
  intro w6 k6' hX6 hz6
  have hT6 := hU5.fresh hb6 hX6
  have hV6 := hV4.trans hT6
  have hl6 : w.heap.size ≤ b6 := by have := hV4.size; omega
  have h26 : b2 ≠ b6 := by have := lt_of_heap k2; omega
  have h36 : b3 ≠ b6 := by have := lt_of_heap k3; omega
  have h46 : b4 ≠ b6 := by have := lt_of_heap k4; omega
  have m2 := k2.upd hT6 (by simp)
  have m3 := k3.upd hT6 (by simp)
  have k46 := hT6.heap k4 (by simp)
  have k66 : EntAt w6 b6 e1 := by unfold EntAt; rw [HCE.out]; exact k6'
  clear r2 r3 i2 x2 hb6 k6 hU5 hz5 k6' hX6 hz6 hT6 hV4 k2 k3 k4 hq hb3 ho1 hs1 ha1
  have HQ1 : Hid (∀ W, Upd [] w6 W → W.cell? ⟨b2, 99, none⟩ = some (.int .i64 ai)) := fun W hW => by rw [← HAI.out]; exact (m2.upd hW (by simp)).idx HA.out
  have HQ2 : Hid (∀ W, Upd [] w6 W → W.cell? ⟨b3, 99, none⟩ = some (.int .i64 bi)) := fun W hW => by rw [← HBI.out]; exact (m3.upd hW (by simp)).idx HB.out
  have HAB : Hid (∀ W, Upd [] w6 W → Calls Try.prog 17 #[.slice (some ⟨b3, 100, none⟩) 32 32, .slice (some ⟨b2, 100, none⟩) 32 32] W fun e w' => e = .returned (.bool (aboveB b.val a.val)) ∧ Upd [] W w') := fun W hW =>
    above_ W _ _ b.val a.val (rd_range ((m3.upd hW (by simp)).val HB.out) HB.out.2.1 (by simp [maxLen])) (rd_range ((m2.upd hW (by simp)).val HA.out) HA.out.2.1 (by simp [maxLen])) (by rw [HA.out.2.1, HB.out.2.1]) (by rw [HB.out.2.1]; omega)
  obtain ⟨AB, hAB⟩ : ∃ x, aboveB b.val a.val = x := ⟨_, rfl⟩
  rw [hAB] at HAB HTK
  clear hAB
  have HM2 := Lib.hid m2
  have HM3 := Lib.hid m3
  have HM4 := Lib.hid k46
  have HM6 := Lib.hid k66
  have HV6 := Lib.hid hV6
  clear m2 m3 k46 k66 hV6
  by_cases hgt : bi > ai
  · have hTK : TK = true := by rw [HTK.out]; simp [hgt]
    have d1 : decide (bi > ai) = true := by simpa using hgt
    clear hgt
    go_wp2_with (fail)
    refine wp_region_quiet_all (Upd [] w6) (by kernel_rfl) (by kernel_rfl) (Upd.refl _ _).drew ?_
    refine wpQuiet_step (fun K hK => ?_)
    go_simp
    first
      | (refine ⟨_, fun _ _ => rfl, hK _ ?_⟩; clear hK K)
      | (refine hK _ ?_; clear hK K)
    repeat (first
      | go_big_quiet_skip
      | (refine wpQuiet_valK rfl (quiet_of_yields (yields_cell (p := ⟨b2, 99, none⟩) rfl HQ1.out Try.underlying3 rfl)) (fun K hK => ?_); go_simp; refine hK _ ?_; clear hK K)
      | (refine wpQuiet_valK rfl (quiet_of_yields (yields_cell (p := ⟨b3, 99, none⟩) rfl HQ2.out Try.underlying3 rfl)) (fun K hK => ?_); go_simp; refine hK _ ?_; clear hK K)
      | go_big_quiet_step ((intro hw2; first
          | rfl
          | ((with_reducible refine (HAB.out _ hw2).mono ?_); exact fun e w' h => ⟨h.1, hw2.trans h.2⟩)
          )))
    refine wpQuiet_nil ?_
    intro w7 hU7
    have m2 := HM2.out.upd hU7 (by simp)
    have m3 := HM3.out.upd hU7 (by simp)
    have m4 := hU7.heap HM4.out (by simp)
    have m6 := HM6.out.upd hU7 (by simp)
    have hV7 := HV6.out.trans hU7
    clear hU7 HQ1 HQ2 HAB
    clear d1
    have i3 := m3.idx HB.out
    rw [HBI.out] at i3
    have kk : w7.heap[b6]? = some (.cells (entC e1).toArray 29 (0, 0)) := m6
    clear m6
    have hk8 : 99 + ([.int .i64 bi] : List Value).length ≤ (entC e1).length := by rw [entC_length HO1.out]; simp
    go_wp2_with (first
        | (with_reducible refine arm_store_part (g := b6) (k := 99) (cs := [.int .i64 bi]) (by with_unfolding_all exact rfl) (by with_unfolding_all exact rfl) kk (by with_unfolding_all exact rfl) hk8 (by with_unfolding_all exact size_int1) (one_list1 (by with_unfolding_all exact rfl)) ?_)
        )
    intro w8 kn hX hz
    rw [splice_idx _ HO1.out] at kn
    obtain ⟨e8, he8⟩ : ∃ e, ({ e1 with idx := bi } : Ent) = e := ⟨_, rfl⟩
    have HE8 := Lib.hid he8
    have HO8 : Hid e8.ok := by rw [← he8]; exact ⟨HO1.out.1, HO1.out.2⟩
    rw [he8] at kn
    have m6 : EntAt w8 b6 e8 := kn
    have hV8 := hV7.trans' hX (fun i hm hi => by simp at hm; omega)
    have m2' := m2.upd hX (by simpa using h26)
    clear m2
    have m2 := m2'
    clear m2'
    have m3' := m3.upd hX (by simpa using h36)
    clear m3
    have m3 := m3'
    clear m3'
    have m4' := hX.heap m4 (by simpa using h46)
    clear m4
    have m4 := m4'
    clear m4'
    clear kk kn hX hz he8 hk8 hV7
    clear i3
    have x3 := m3.val HB.out
    rw [HVB.out] at x3
    have kk : w8.heap[b6]? = some (.cells (entC e8).toArray 29 (0, 0)) := m6
    clear m6
    have hk9 : 100 + (vb : List Value).length ≤ (entC e8).length := by rw [entC_length HO8.out]; rw [← HVB.out, List.length_map, HB.out.2.1]; omega
    go_wp2_with (first
        | (with_reducible refine arm_load_mid (g := b3) (k := 100) (by with_unfolding_all exact rfl) x3 Try.underlying23 rfl hsvb ?_)
        | (with_reducible refine arm_store_part (g := b6) (k := 100) (cs := vb) (by with_unfolding_all exact rfl) (by with_unfolding_all exact rfl) kk (by with_unfolding_all exact rfl) hk9 (by with_unfolding_all exact hsvb) (one_map HVB.out) ?_)
        )
    intro w9 kn hX hz
    rw [← HVB.out, splice_val _ HO8.out b.val HB.out.2.1] at kn
    obtain ⟨e9, he9⟩ : ∃ e, ({ e8 with val := b.val } : Ent) = e := ⟨_, rfl⟩
    have HE9 := Lib.hid he9
    have HO9 : Hid e9.ok := by rw [← he9]; exact ⟨HO8.out.1, HB.out.2.1, HO8.out.2.2⟩
    rw [he9] at kn
    have m6 : EntAt w9 b6 e9 := kn
    have hV9 := hV8.trans' hX (fun i hm hi => by simp at hm; omega)
    have m2' := m2.upd hX (by simpa using h26)
    clear m2
    have m2 := m2'
    clear m2'
    have m3' := m3.upd hX (by simpa using h36)
    clear m3
    have m3 := m3'
    clear m3'
    have m4' := hX.heap m4 (by simpa using h46)
    clear m4
    have m4 := m4'
    clear m4'
    clear kk kn hX hz he9 hk9 hV8
    clear x3
    have c2 := m2.fz HA.out
    have c3 := m3.fz HB.out
    have y2 := m2.fs HA.out
    have y3 := m3.fs HB.out
    rw [HFA.out] at y2
    rw [HFB.out] at y3
    go_wp2_with (first
        | (with_reducible refine arm_load_mid (g := b2) (k := 133) (by with_unfolding_all exact rfl) y2 Try.underlying25 rfl hsfa ?_)
        | (with_reducible refine arm_load_mid (g := b3) (k := 133) (by with_unfolding_all exact rfl) y3 Try.underlying25 rfl hsfb ?_)
        )
    with_reducible refine (HSE1.out _).mono ?_
    rintro e w10 ⟨rfl, hU⟩
    have m2' := m2.upd hU (by simp)
    clear m2
    have m2 := m2'
    clear m2'
    have m3' := m3.upd hU (by simp)
    clear m3
    have m3 := m3'
    clear m3'
    have m4' := hU.heap m4 (by simp)
    clear m4
    have m4 := m4'
    clear m4'
    have m6' := m6.upd hU (by simp)
    clear m6
    have m6 := m6'
    clear m6'
    have hV10 := hV9.trans hU
    clear hU hV9
    clear c2 c3 y2 y3
    have kk : w10.heap[b6]? = some (.cells (entC e9).toArray 29 (0, 0)) := m6
    clear m6
    have hk11 : 132 + ([.bool G1] : List Value).length ≤ (entC e9).length := by rw [entC_length HO9.out]; simp
    go_wp2_with (first
        | (with_reducible refine arm_store_part (g := b6) (k := 132) (cs := [.bool G1]) (by with_unfolding_all exact rfl) (by with_unfolding_all exact rfl) kk (by with_unfolding_all exact rfl) hk11 (by with_unfolding_all exact size_bool1) (one_list1 (by with_unfolding_all exact rfl)) ?_)
        )
    intro w11 kn hX hz
    rw [splice_fz _ HO9.out] at kn
    obtain ⟨e11, he11⟩ : ∃ e, ({ e9 with fz := G1 } : Ent) = e := ⟨_, rfl⟩
    have HE11 := Lib.hid he11
    have HO11 : Hid e11.ok := by rw [← he11]; exact ⟨HO9.out.1, HO9.out.2⟩
    rw [he11] at kn
    have m6 : EntAt w11 b6 e11 := kn
    have hV11 := hV10.trans' hX (fun i hm hi => by simp at hm; omega)
    have m2' := m2.upd hX (by simpa using h26)
    clear m2
    have m2 := m2'
    clear m2'
    have m3' := m3.upd hX (by simpa using h36)
    clear m3
    have m3 := m3'
    clear m3'
    have m4' := hX.heap m4 (by simpa using h46)
    clear m4
    have m4 := m4'
    clear m4'
    clear kk kn hX hz he11 hk11 hV10
    have kk : w11.heap[b6]? = some (.cells (entC e11).toArray 29 (0, 0)) := m6
    clear m6
    have hk12 : 133 + (s1 : List Value).length ≤ (entC e11).length := by rw [entC_length HO11.out]; rw [← HS1.out, List.length_map, HSL1.out]; omega
    go_wp2_with (first
        | (with_reducible refine arm_store_part (g := b6) (k := 133) (cs := s1) (by with_unfolding_all exact rfl) (by with_unfolding_all exact rfl) kk (by with_unfolding_all exact rfl) hk12 (by with_unfolding_all exact hg1) (one_map HS1.out) ?_)
        )
    intro w12 kn hX hz
    rw [← HS1.out, splice_fs _ HO11.out F1 HSL1.out] at kn
    obtain ⟨e12, he12⟩ : ∃ e, ({ e11 with fs := F1 } : Ent) = e := ⟨_, rfl⟩
    have HE12 := Lib.hid he12
    have HO12 : Hid e12.ok := by rw [← he12]; exact ⟨HO11.out.1, HO11.out.2.1, HSL1.out, HO11.out.2.2.2⟩
    rw [he12] at kn
    have m6 : EntAt w12 b6 e12 := kn
    have hV12 := hV11.trans' hX (fun i hm hi => by simp at hm; omega)
    have m2' := m2.upd hX (by simpa using h26)
    clear m2
    have m2 := m2'
    clear m2'
    have m3' := m3.upd hX (by simpa using h36)
    clear m3
    have m3 := m3'
    clear m3'
    have m4' := hX.heap m4 (by simpa using h46)
    clear m4
    have m4 := m4'
    clear m4'
    clear kk kn hX hz he12 hk12 hV11
    have c2 := m2.rv HA.out
    have c3 := m3.rv HB.out
    have y2 := m2.rs HA.out
    have y3 := m3.rs HB.out
    rw [HRA.out] at y2
    rw [HRB.out] at y3
    go_wp2_with (first
        | (with_reducible refine arm_load_mid (g := b2) (k := 198) (by with_unfolding_all exact rfl) y2 Try.underlying25 rfl hsra ?_)
        | (with_reducible refine arm_load_mid (g := b3) (k := 198) (by with_unfolding_all exact rfl) y3 Try.underlying25 rfl hsrb ?_)
        )
    with_reducible refine (HSE2.out _).mono ?_
    rintro e w13 ⟨rfl, hU⟩
    have m2' := m2.upd hU (by simp)
    clear m2
    have m2 := m2'
    clear m2'
    have m3' := m3.upd hU (by simp)
    clear m3
    have m3 := m3'
    clear m3'
    have m4' := hU.heap m4 (by simp)
    clear m4
    have m4 := m4'
    clear m4'
    have m6' := m6.upd hU (by simp)
    clear m6
    have m6 := m6'
    clear m6'
    have hV13 := hV12.trans hU
    clear hU hV12
    clear c2 c3 y2 y3
    have kk : w13.heap[b6]? = some (.cells (entC e12).toArray 29 (0, 0)) := m6
    clear m6
    have hk14 : 197 + ([.bool G2] : List Value).length ≤ (entC e12).length := by rw [entC_length HO12.out]; simp
    go_wp2_with (first
        | (with_reducible refine arm_store_part (g := b6) (k := 197) (cs := [.bool G2]) (by with_unfolding_all exact rfl) (by with_unfolding_all exact rfl) kk (by with_unfolding_all exact rfl) hk14 (by with_unfolding_all exact size_bool1) (one_list1 (by with_unfolding_all exact rfl)) ?_)
        )
    intro w14 kn hX hz
    rw [splice_rv _ HO12.out] at kn
    obtain ⟨e14, he14⟩ : ∃ e, ({ e12 with rv := G2 } : Ent) = e := ⟨_, rfl⟩
    have HE14 := Lib.hid he14
    have HO14 : Hid e14.ok := by rw [← he14]; exact ⟨HO12.out.1, HO12.out.2⟩
    rw [he14] at kn
    have m6 : EntAt w14 b6 e14 := kn
    have hV14 := hV13.trans' hX (fun i hm hi => by simp at hm; omega)
    have m2' := m2.upd hX (by simpa using h26)
    clear m2
    have m2 := m2'
    clear m2'
    have m3' := m3.upd hX (by simpa using h36)
    clear m3
    have m3 := m3'
    clear m3'
    have m4' := hX.heap m4 (by simpa using h46)
    clear m4
    have m4 := m4'
    clear m4'
    clear kk kn hX hz he14 hk14 hV13
    have kk : w14.heap[b6]? = some (.cells (entC e14).toArray 29 (0, 0)) := m6
    clear m6
    have hk15 : 198 + (s2 : List Value).length ≤ (entC e14).length := by rw [entC_length HO14.out]; rw [← HS2.out, List.length_map, HSL2.out]; omega
    go_wp2_with (first
        | (with_reducible refine arm_store_part (g := b6) (k := 198) (cs := s2) (by with_unfolding_all exact rfl) (by with_unfolding_all exact rfl) kk (by with_unfolding_all exact rfl) hk15 (by with_unfolding_all exact hg2) (one_map HS2.out) ?_)
        )
    intro w15 kn hX hz
    rw [← HS2.out, splice_rs _ HO14.out F2 HSL2.out] at kn
    obtain ⟨e15, he15⟩ : ∃ e, ({ e14 with rs := F2 } : Ent) = e := ⟨_, rfl⟩
    have HE15 := Lib.hid he15
    have HO15 : Hid e15.ok := by rw [← he15]; exact ⟨HO14.out.1, HO14.out.2.1, HO14.out.2.2.1, HSL2.out⟩
    rw [he15] at kn
    have m6 : EntAt w15 b6 e15 := kn
    have hV15 := hV14.trans' hX (fun i hm hi => by simp at hm; omega)
    have m2' := m2.upd hX (by simpa using h26)
    clear m2
    have m2 := m2'
    clear m2'
    have m3' := m3.upd hX (by simpa using h36)
    clear m3
    have m3 := m3'
    clear m3'
    have m4' := hX.heap m4 (by simpa using h46)
    clear m4
    have m4 := m4'
    clear m4'
    clear kk kn hX hz he15 hk15 hV14
    have hEJ : e15 = J := by
      rw [HJ.out, hTK, ← HE15.out, ← HE14.out, ← HE12.out, ← HE11.out, ← HE9.out, ← HE8.out, ← HE1.out]
      simp [HAI.out]
    rw [hEJ] at m6
    have m6c : w15.heap[b6]? = some (.cells cJ 29 (0, 0)) := by rw [← HCJ.out]; exact m6
    clear m6
    go_wp2_with (first
        | (with_reducible refine arm_load (by with_unfolding_all exact rfl) m6c Try.underlying29 (by with_unfolding_all exact rfl) hsJ ?_)
        | (with_reducible refine arm_store (by with_unfolding_all exact rfl) (by with_unfolding_all exact rfl) m4 hsJ hoJ haJ ?_)
        )
    intro wz kz hXz hzz
    go_wp2_with (fail)
    refine bodyPost_ret (v := .tuple #[.agg cJ, .int .i64 0]) (results_agg_tmp rfl _ _ b4 29 _ (0, 0) _ rfl kz Try.underlying29 rfl hsJ rfl) rfl ⟨rfl, ?_⟩
    exact hV15.trans' hXz (fun i hm hi => by simp at hm; omega)
  by_cases heq : bi = ai
  · have d1 : decide (bi > ai) = false := by simpa using hgt
    have d2 : (bi == ai) = true := by simpa using heq
    cases AB
    · have hTK : TK = false := by rw [HTK.out, d1]; simp
      clear hgt heq
      go_wp2_with (fail)
      refine wp_region_quiet_all (Upd [] w6) (by kernel_rfl) (by kernel_rfl) (Upd.refl _ _).drew ?_
      refine wpQuiet_step (fun K hK => ?_)
      go_simp
      first
        | (refine ⟨_, fun _ _ => rfl, hK _ ?_⟩; clear hK K)
        | (refine hK _ ?_; clear hK K)
      repeat (first
        | go_big_quiet_skip
        | (refine wpQuiet_valK rfl (quiet_of_yields (yields_cell (p := ⟨b2, 99, none⟩) rfl HQ1.out Try.underlying3 rfl)) (fun K hK => ?_); go_simp; refine hK _ ?_; clear hK K)
        | (refine wpQuiet_valK rfl (quiet_of_yields (yields_cell (p := ⟨b3, 99, none⟩) rfl HQ2.out Try.underlying3 rfl)) (fun K hK => ?_); go_simp; refine hK _ ?_; clear hK K)
        | go_big_quiet_step ((intro hw2; first
            | rfl
            | ((with_reducible refine (HAB.out _ hw2).mono ?_); exact fun e w' h => ⟨h.1, hw2.trans h.2⟩)
            )))
      refine wpQuiet_nil ?_
      intro w7 hU7
      have m2 := HM2.out.upd hU7 (by simp)
      have m3 := HM3.out.upd hU7 (by simp)
      have m4 := hU7.heap HM4.out (by simp)
      have m6 := HM6.out.upd hU7 (by simp)
      have hV7 := HV6.out.trans hU7
      clear hU7 HQ1 HQ2 HAB
      clear d1 d2
      have c2 := m2.fz HA.out
      have c3 := m3.fz HB.out
      have y2 := m2.fs HA.out
      have y3 := m3.fs HB.out
      rw [HFA.out] at y2
      rw [HFB.out] at y3
      go_wp2_with (first
          | (with_reducible refine arm_load_mid (g := b2) (k := 133) (by with_unfolding_all exact rfl) y2 Try.underlying25 rfl hsfa ?_)
          | (with_reducible refine arm_load_mid (g := b3) (k := 133) (by with_unfolding_all exact rfl) y3 Try.underlying25 rfl hsfb ?_)
          )
      with_reducible refine (HSE1.out _).mono ?_
      rintro e w8 ⟨rfl, hU⟩
      have m2' := m2.upd hU (by simp)
      clear m2
      have m2 := m2'
      clear m2'
      have m3' := m3.upd hU (by simp)
      clear m3
      have m3 := m3'
      clear m3'
      have m4' := hU.heap m4 (by simp)
      clear m4
      have m4 := m4'
      clear m4'
      have m6' := m6.upd hU (by simp)
      clear m6
      have m6 := m6'
      clear m6'
      have hV8 := hV7.trans hU
      clear hU hV7
      clear c2 c3 y2 y3
      have kk : w8.heap[b6]? = some (.cells (entC e1).toArray 29 (0, 0)) := m6
      clear m6
      have hk9 : 132 + ([.bool G1] : List Value).length ≤ (entC e1).length := by rw [entC_length HO1.out]; simp
      go_wp2_with (first
          | (with_reducible refine arm_store_part (g := b6) (k := 132) (cs := [.bool G1]) (by with_unfolding_all exact rfl) (by with_unfolding_all exact rfl) kk (by with_unfolding_all exact rfl) hk9 (by with_unfolding_all exact size_bool1) (one_list1 (by with_unfolding_all exact rfl)) ?_)
          )
      intro w9 kn hX hz
      rw [splice_fz _ HO1.out] at kn
      obtain ⟨e9, he9⟩ : ∃ e, ({ e1 with fz := G1 } : Ent) = e := ⟨_, rfl⟩
      have HE9 := Lib.hid he9
      have HO9 : Hid e9.ok := by rw [← he9]; exact ⟨HO1.out.1, HO1.out.2⟩
      rw [he9] at kn
      have m6 : EntAt w9 b6 e9 := kn
      have hV9 := hV8.trans' hX (fun i hm hi => by simp at hm; omega)
      have m2' := m2.upd hX (by simpa using h26)
      clear m2
      have m2 := m2'
      clear m2'
      have m3' := m3.upd hX (by simpa using h36)
      clear m3
      have m3 := m3'
      clear m3'
      have m4' := hX.heap m4 (by simpa using h46)
      clear m4
      have m4 := m4'
      clear m4'
      clear kk kn hX hz he9 hk9 hV8
      have kk : w9.heap[b6]? = some (.cells (entC e9).toArray 29 (0, 0)) := m6
      clear m6
      have hk10 : 133 + (s1 : List Value).length ≤ (entC e9).length := by rw [entC_length HO9.out]; rw [← HS1.out, List.length_map, HSL1.out]; omega
      go_wp2_with (first
          | (with_reducible refine arm_store_part (g := b6) (k := 133) (cs := s1) (by with_unfolding_all exact rfl) (by with_unfolding_all exact rfl) kk (by with_unfolding_all exact rfl) hk10 (by with_unfolding_all exact hg1) (one_map HS1.out) ?_)
          )
      intro w10 kn hX hz
      rw [← HS1.out, splice_fs _ HO9.out F1 HSL1.out] at kn
      obtain ⟨e10, he10⟩ : ∃ e, ({ e9 with fs := F1 } : Ent) = e := ⟨_, rfl⟩
      have HE10 := Lib.hid he10
      have HO10 : Hid e10.ok := by rw [← he10]; exact ⟨HO9.out.1, HO9.out.2.1, HSL1.out, HO9.out.2.2.2⟩
      rw [he10] at kn
      have m6 : EntAt w10 b6 e10 := kn
      have hV10 := hV9.trans' hX (fun i hm hi => by simp at hm; omega)
      have m2' := m2.upd hX (by simpa using h26)
      clear m2
      have m2 := m2'
      clear m2'
      have m3' := m3.upd hX (by simpa using h36)
      clear m3
      have m3 := m3'
      clear m3'
      have m4' := hX.heap m4 (by simpa using h46)
      clear m4
      have m4 := m4'
      clear m4'
      clear kk kn hX hz he10 hk10 hV9
      have c2 := m2.rv HA.out
      have c3 := m3.rv HB.out
      have y2 := m2.rs HA.out
      have y3 := m3.rs HB.out
      rw [HRA.out] at y2
      rw [HRB.out] at y3
      go_wp2_with (first
          | (with_reducible refine arm_load_mid (g := b2) (k := 198) (by with_unfolding_all exact rfl) y2 Try.underlying25 rfl hsra ?_)
          | (with_reducible refine arm_load_mid (g := b3) (k := 198) (by with_unfolding_all exact rfl) y3 Try.underlying25 rfl hsrb ?_)
          )
      with_reducible refine (HSE2.out _).mono ?_
      rintro e w11 ⟨rfl, hU⟩
      have m2' := m2.upd hU (by simp)
      clear m2
      have m2 := m2'
      clear m2'
      have m3' := m3.upd hU (by simp)
      clear m3
      have m3 := m3'
      clear m3'
      have m4' := hU.heap m4 (by simp)
      clear m4
      have m4 := m4'
      clear m4'
      have m6' := m6.upd hU (by simp)
      clear m6
      have m6 := m6'
      clear m6'
      have hV11 := hV10.trans hU
      clear hU hV10
      clear c2 c3 y2 y3
      have kk : w11.heap[b6]? = some (.cells (entC e10).toArray 29 (0, 0)) := m6
      clear m6
      have hk12 : 197 + ([.bool G2] : List Value).length ≤ (entC e10).length := by rw [entC_length HO10.out]; simp
      go_wp2_with (first
          | (with_reducible refine arm_store_part (g := b6) (k := 197) (cs := [.bool G2]) (by with_unfolding_all exact rfl) (by with_unfolding_all exact rfl) kk (by with_unfolding_all exact rfl) hk12 (by with_unfolding_all exact size_bool1) (one_list1 (by with_unfolding_all exact rfl)) ?_)
          )
      intro w12 kn hX hz
      rw [splice_rv _ HO10.out] at kn
      obtain ⟨e12, he12⟩ : ∃ e, ({ e10 with rv := G2 } : Ent) = e := ⟨_, rfl⟩
      have HE12 := Lib.hid he12
      have HO12 : Hid e12.ok := by rw [← he12]; exact ⟨HO10.out.1, HO10.out.2⟩
      rw [he12] at kn
      have m6 : EntAt w12 b6 e12 := kn
      have hV12 := hV11.trans' hX (fun i hm hi => by simp at hm; omega)
      have m2' := m2.upd hX (by simpa using h26)
      clear m2
      have m2 := m2'
      clear m2'
      have m3' := m3.upd hX (by simpa using h36)
      clear m3
      have m3 := m3'
      clear m3'
      have m4' := hX.heap m4 (by simpa using h46)
      clear m4
      have m4 := m4'
      clear m4'
      clear kk kn hX hz he12 hk12 hV11
      have kk : w12.heap[b6]? = some (.cells (entC e12).toArray 29 (0, 0)) := m6
      clear m6
      have hk13 : 198 + (s2 : List Value).length ≤ (entC e12).length := by rw [entC_length HO12.out]; rw [← HS2.out, List.length_map, HSL2.out]; omega
      go_wp2_with (first
          | (with_reducible refine arm_store_part (g := b6) (k := 198) (cs := s2) (by with_unfolding_all exact rfl) (by with_unfolding_all exact rfl) kk (by with_unfolding_all exact rfl) hk13 (by with_unfolding_all exact hg2) (one_map HS2.out) ?_)
          )
      intro w13 kn hX hz
      rw [← HS2.out, splice_rs _ HO12.out F2 HSL2.out] at kn
      obtain ⟨e13, he13⟩ : ∃ e, ({ e12 with rs := F2 } : Ent) = e := ⟨_, rfl⟩
      have HE13 := Lib.hid he13
      have HO13 : Hid e13.ok := by rw [← he13]; exact ⟨HO12.out.1, HO12.out.2.1, HO12.out.2.2.1, HSL2.out⟩
      rw [he13] at kn
      have m6 : EntAt w13 b6 e13 := kn
      have hV13 := hV12.trans' hX (fun i hm hi => by simp at hm; omega)
      have m2' := m2.upd hX (by simpa using h26)
      clear m2
      have m2 := m2'
      clear m2'
      have m3' := m3.upd hX (by simpa using h36)
      clear m3
      have m3 := m3'
      clear m3'
      have m4' := hX.heap m4 (by simpa using h46)
      clear m4
      have m4 := m4'
      clear m4'
      clear kk kn hX hz he13 hk13 hV12
      have hEJ : e13 = J := by
        rw [HJ.out, hTK, ← HE13.out, ← HE12.out, ← HE10.out, ← HE9.out, ← HE1.out]
        simp [HAI.out]
      rw [hEJ] at m6
      have m6c : w13.heap[b6]? = some (.cells cJ 29 (0, 0)) := by rw [← HCJ.out]; exact m6
      clear m6
      go_wp2_with (first
          | (with_reducible refine arm_load (by with_unfolding_all exact rfl) m6c Try.underlying29 (by with_unfolding_all exact rfl) hsJ ?_)
          | (with_reducible refine arm_store (by with_unfolding_all exact rfl) (by with_unfolding_all exact rfl) m4 hsJ hoJ haJ ?_)
          )
      intro wz kz hXz hzz
      go_wp2_with (fail)
      refine bodyPost_ret (v := .tuple #[.agg cJ, .int .i64 0]) (results_agg_tmp rfl _ _ b4 29 _ (0, 0) _ rfl kz Try.underlying29 rfl hsJ rfl) rfl ⟨rfl, ?_⟩
      exact hV13.trans' hXz (fun i hm hi => by simp at hm; omega)
    · have hTK : TK = true := by rw [HTK.out, d2]; simp
      clear hgt heq
      go_wp2_with (fail)
      refine wp_region_quiet_all (Upd [] w6) (by kernel_rfl) (by kernel_rfl) (Upd.refl _ _).drew ?_
      refine wpQuiet_step (fun K hK => ?_)
      go_simp
      first
        | (refine ⟨_, fun _ _ => rfl, hK _ ?_⟩; clear hK K)
        | (refine hK _ ?_; clear hK K)
      repeat (first
        | go_big_quiet_skip
        | (refine wpQuiet_valK rfl (quiet_of_yields (yields_cell (p := ⟨b2, 99, none⟩) rfl HQ1.out Try.underlying3 rfl)) (fun K hK => ?_); go_simp; refine hK _ ?_; clear hK K)
        | (refine wpQuiet_valK rfl (quiet_of_yields (yields_cell (p := ⟨b3, 99, none⟩) rfl HQ2.out Try.underlying3 rfl)) (fun K hK => ?_); go_simp; refine hK _ ?_; clear hK K)
        | go_big_quiet_step ((intro hw2; first
            | rfl
            | ((with_reducible refine (HAB.out _ hw2).mono ?_); exact fun e w' h => ⟨h.1, hw2.trans h.2⟩)
            )))
      refine wpQuiet_nil ?_
      intro w7 hU7
      have m2 := HM2.out.upd hU7 (by simp)
      have m3 := HM3.out.upd hU7 (by simp)
      have m4 := hU7.heap HM4.out (by simp)
      have m6 := HM6.out.upd hU7 (by simp)
      have hV7 := HV6.out.trans hU7
      clear hU7 HQ1 HQ2 HAB
      clear d1 d2
      have i3 := m3.idx HB.out
      rw [HBI.out] at i3
      have kk : w7.heap[b6]? = some (.cells (entC e1).toArray 29 (0, 0)) := m6
      clear m6
      have hk8 : 99 + ([.int .i64 bi] : List Value).length ≤ (entC e1).length := by rw [entC_length HO1.out]; simp
      go_wp2_with (first
          | (with_reducible refine arm_store_part (g := b6) (k := 99) (cs := [.int .i64 bi]) (by with_unfolding_all exact rfl) (by with_unfolding_all exact rfl) kk (by with_unfolding_all exact rfl) hk8 (by with_unfolding_all exact size_int1) (one_list1 (by with_unfolding_all exact rfl)) ?_)
          )
      intro w8 kn hX hz
      rw [splice_idx _ HO1.out] at kn
      obtain ⟨e8, he8⟩ : ∃ e, ({ e1 with idx := bi } : Ent) = e := ⟨_, rfl⟩
      have HE8 := Lib.hid he8
      have HO8 : Hid e8.ok := by rw [← he8]; exact ⟨HO1.out.1, HO1.out.2⟩
      rw [he8] at kn
      have m6 : EntAt w8 b6 e8 := kn
      have hV8 := hV7.trans' hX (fun i hm hi => by simp at hm; omega)
      have m2' := m2.upd hX (by simpa using h26)
      clear m2
      have m2 := m2'
      clear m2'
      have m3' := m3.upd hX (by simpa using h36)
      clear m3
      have m3 := m3'
      clear m3'
      have m4' := hX.heap m4 (by simpa using h46)
      clear m4
      have m4 := m4'
      clear m4'
      clear kk kn hX hz he8 hk8 hV7
      clear i3
      have x3 := m3.val HB.out
      rw [HVB.out] at x3
      have kk : w8.heap[b6]? = some (.cells (entC e8).toArray 29 (0, 0)) := m6
      clear m6
      have hk9 : 100 + (vb : List Value).length ≤ (entC e8).length := by rw [entC_length HO8.out]; rw [← HVB.out, List.length_map, HB.out.2.1]; omega
      go_wp2_with (first
          | (with_reducible refine arm_load_mid (g := b3) (k := 100) (by with_unfolding_all exact rfl) x3 Try.underlying23 rfl hsvb ?_)
          | (with_reducible refine arm_store_part (g := b6) (k := 100) (cs := vb) (by with_unfolding_all exact rfl) (by with_unfolding_all exact rfl) kk (by with_unfolding_all exact rfl) hk9 (by with_unfolding_all exact hsvb) (one_map HVB.out) ?_)
          )
      intro w9 kn hX hz
      rw [← HVB.out, splice_val _ HO8.out b.val HB.out.2.1] at kn
      obtain ⟨e9, he9⟩ : ∃ e, ({ e8 with val := b.val } : Ent) = e := ⟨_, rfl⟩
      have HE9 := Lib.hid he9
      have HO9 : Hid e9.ok := by rw [← he9]; exact ⟨HO8.out.1, HB.out.2.1, HO8.out.2.2⟩
      rw [he9] at kn
      have m6 : EntAt w9 b6 e9 := kn
      have hV9 := hV8.trans' hX (fun i hm hi => by simp at hm; omega)
      have m2' := m2.upd hX (by simpa using h26)
      clear m2
      have m2 := m2'
      clear m2'
      have m3' := m3.upd hX (by simpa using h36)
      clear m3
      have m3 := m3'
      clear m3'
      have m4' := hX.heap m4 (by simpa using h46)
      clear m4
      have m4 := m4'
      clear m4'
      clear kk kn hX hz he9 hk9 hV8
      clear x3
      have c2 := m2.fz HA.out
      have c3 := m3.fz HB.out
      have y2 := m2.fs HA.out
      have y3 := m3.fs HB.out
      rw [HFA.out] at y2
      rw [HFB.out] at y3
      go_wp2_with (first
          | (with_reducible refine arm_load_mid (g := b2) (k := 133) (by with_unfolding_all exact rfl) y2 Try.underlying25 rfl hsfa ?_)
          | (with_reducible refine arm_load_mid (g := b3) (k := 133) (by with_unfolding_all exact rfl) y3 Try.underlying25 rfl hsfb ?_)
          )
      with_reducible refine (HSE1.out _).mono ?_
      rintro e w10 ⟨rfl, hU⟩
      have m2' := m2.upd hU (by simp)
      clear m2
      have m2 := m2'
      clear m2'
      have m3' := m3.upd hU (by simp)
      clear m3
      have m3 := m3'
      clear m3'
      have m4' := hU.heap m4 (by simp)
      clear m4
      have m4 := m4'
      clear m4'
      have m6' := m6.upd hU (by simp)
      clear m6
      have m6 := m6'
      clear m6'
      have hV10 := hV9.trans hU
      clear hU hV9
      clear c2 c3 y2 y3
      have kk : w10.heap[b6]? = some (.cells (entC e9).toArray 29 (0, 0)) := m6
      clear m6
      have hk11 : 132 + ([.bool G1] : List Value).length ≤ (entC e9).length := by rw [entC_length HO9.out]; simp
      go_wp2_with (first
          | (with_reducible refine arm_store_part (g := b6) (k := 132) (cs := [.bool G1]) (by with_unfolding_all exact rfl) (by with_unfolding_all exact rfl) kk (by with_unfolding_all exact rfl) hk11 (by with_unfolding_all exact size_bool1) (one_list1 (by with_unfolding_all exact rfl)) ?_)
          )
      intro w11 kn hX hz
      rw [splice_fz _ HO9.out] at kn
      obtain ⟨e11, he11⟩ : ∃ e, ({ e9 with fz := G1 } : Ent) = e := ⟨_, rfl⟩
      have HE11 := Lib.hid he11
      have HO11 : Hid e11.ok := by rw [← he11]; exact ⟨HO9.out.1, HO9.out.2⟩
      rw [he11] at kn
      have m6 : EntAt w11 b6 e11 := kn
      have hV11 := hV10.trans' hX (fun i hm hi => by simp at hm; omega)
      have m2' := m2.upd hX (by simpa using h26)
      clear m2
      have m2 := m2'
      clear m2'
      have m3' := m3.upd hX (by simpa using h36)
      clear m3
      have m3 := m3'
      clear m3'
      have m4' := hX.heap m4 (by simpa using h46)
      clear m4
      have m4 := m4'
      clear m4'
      clear kk kn hX hz he11 hk11 hV10
      have kk : w11.heap[b6]? = some (.cells (entC e11).toArray 29 (0, 0)) := m6
      clear m6
      have hk12 : 133 + (s1 : List Value).length ≤ (entC e11).length := by rw [entC_length HO11.out]; rw [← HS1.out, List.length_map, HSL1.out]; omega
      go_wp2_with (first
          | (with_reducible refine arm_store_part (g := b6) (k := 133) (cs := s1) (by with_unfolding_all exact rfl) (by with_unfolding_all exact rfl) kk (by with_unfolding_all exact rfl) hk12 (by with_unfolding_all exact hg1) (one_map HS1.out) ?_)
          )
      intro w12 kn hX hz
      rw [← HS1.out, splice_fs _ HO11.out F1 HSL1.out] at kn
      obtain ⟨e12, he12⟩ : ∃ e, ({ e11 with fs := F1 } : Ent) = e := ⟨_, rfl⟩
      have HE12 := Lib.hid he12
      have HO12 : Hid e12.ok := by rw [← he12]; exact ⟨HO11.out.1, HO11.out.2.1, HSL1.out, HO11.out.2.2.2⟩
      rw [he12] at kn
      have m6 : EntAt w12 b6 e12 := kn
      have hV12 := hV11.trans' hX (fun i hm hi => by simp at hm; omega)
      have m2' := m2.upd hX (by simpa using h26)
      clear m2
      have m2 := m2'
      clear m2'
      have m3' := m3.upd hX (by simpa using h36)
      clear m3
      have m3 := m3'
      clear m3'
      have m4' := hX.heap m4 (by simpa using h46)
      clear m4
      have m4 := m4'
      clear m4'
      clear kk kn hX hz he12 hk12 hV11
      have c2 := m2.rv HA.out
      have c3 := m3.rv HB.out
      have y2 := m2.rs HA.out
      have y3 := m3.rs HB.out
      rw [HRA.out] at y2
      rw [HRB.out] at y3
      go_wp2_with (first
          | (with_reducible refine arm_load_mid (g := b2) (k := 198) (by with_unfolding_all exact rfl) y2 Try.underlying25 rfl hsra ?_)
          | (with_reducible refine arm_load_mid (g := b3) (k := 198) (by with_unfolding_all exact rfl) y3 Try.underlying25 rfl hsrb ?_)
          )
      with_reducible refine (HSE2.out _).mono ?_
      rintro e w13 ⟨rfl, hU⟩
      have m2' := m2.upd hU (by simp)
      clear m2
      have m2 := m2'
      clear m2'
      have m3' := m3.upd hU (by simp)
      clear m3
      have m3 := m3'
      clear m3'
      have m4' := hU.heap m4 (by simp)
      clear m4
      have m4 := m4'
      clear m4'
      have m6' := m6.upd hU (by simp)
      clear m6
      have m6 := m6'
      clear m6'
      have hV13 := hV12.trans hU
      clear hU hV12
      clear c2 c3 y2 y3
      have kk : w13.heap[b6]? = some (.cells (entC e12).toArray 29 (0, 0)) := m6
      clear m6
      have hk14 : 197 + ([.bool G2] : List Value).length ≤ (entC e12).length := by rw [entC_length HO12.out]; simp
      go_wp2_with (first
          | (with_reducible refine arm_store_part (g := b6) (k := 197) (cs := [.bool G2]) (by with_unfolding_all exact rfl) (by with_unfolding_all exact rfl) kk (by with_unfolding_all exact rfl) hk14 (by with_unfolding_all exact size_bool1) (one_list1 (by with_unfolding_all exact rfl)) ?_)
          )
      intro w14 kn hX hz
      rw [splice_rv _ HO12.out] at kn
      obtain ⟨e14, he14⟩ : ∃ e, ({ e12 with rv := G2 } : Ent) = e := ⟨_, rfl⟩
      have HE14 := Lib.hid he14
      have HO14 : Hid e14.ok := by rw [← he14]; exact ⟨HO12.out.1, HO12.out.2⟩
      rw [he14] at kn
      have m6 : EntAt w14 b6 e14 := kn
      have hV14 := hV13.trans' hX (fun i hm hi => by simp at hm; omega)
      have m2' := m2.upd hX (by simpa using h26)
      clear m2
      have m2 := m2'
      clear m2'
      have m3' := m3.upd hX (by simpa using h36)
      clear m3
      have m3 := m3'
      clear m3'
      have m4' := hX.heap m4 (by simpa using h46)
      clear m4
      have m4 := m4'
      clear m4'
      clear kk kn hX hz he14 hk14 hV13
      have kk : w14.heap[b6]? = some (.cells (entC e14).toArray 29 (0, 0)) := m6
      clear m6
      have hk15 : 198 + (s2 : List Value).length ≤ (entC e14).length := by rw [entC_length HO14.out]; rw [← HS2.out, List.length_map, HSL2.out]; omega
      go_wp2_with (first
          | (with_reducible refine arm_store_part (g := b6) (k := 198) (cs := s2) (by with_unfolding_all exact rfl) (by with_unfolding_all exact rfl) kk (by with_unfolding_all exact rfl) hk15 (by with_unfolding_all exact hg2) (one_map HS2.out) ?_)
          )
      intro w15 kn hX hz
      rw [← HS2.out, splice_rs _ HO14.out F2 HSL2.out] at kn
      obtain ⟨e15, he15⟩ : ∃ e, ({ e14 with rs := F2 } : Ent) = e := ⟨_, rfl⟩
      have HE15 := Lib.hid he15
      have HO15 : Hid e15.ok := by rw [← he15]; exact ⟨HO14.out.1, HO14.out.2.1, HO14.out.2.2.1, HSL2.out⟩
      rw [he15] at kn
      have m6 : EntAt w15 b6 e15 := kn
      have hV15 := hV14.trans' hX (fun i hm hi => by simp at hm; omega)
      have m2' := m2.upd hX (by simpa using h26)
      clear m2
      have m2 := m2'
      clear m2'
      have m3' := m3.upd hX (by simpa using h36)
      clear m3
      have m3 := m3'
      clear m3'
      have m4' := hX.heap m4 (by simpa using h46)
      clear m4
      have m4 := m4'
      clear m4'
      clear kk kn hX hz he15 hk15 hV14
      have hEJ : e15 = J := by
        rw [HJ.out, hTK, ← HE15.out, ← HE14.out, ← HE12.out, ← HE11.out, ← HE9.out, ← HE8.out, ← HE1.out]
        simp [HAI.out]
      rw [hEJ] at m6
      have m6c : w15.heap[b6]? = some (.cells cJ 29 (0, 0)) := by rw [← HCJ.out]; exact m6
      clear m6
      go_wp2_with (first
          | (with_reducible refine arm_load (by with_unfolding_all exact rfl) m6c Try.underlying29 (by with_unfolding_all exact rfl) hsJ ?_)
          | (with_reducible refine arm_store (by with_unfolding_all exact rfl) (by with_unfolding_all exact rfl) m4 hsJ hoJ haJ ?_)
          )
      intro wz kz hXz hzz
      go_wp2_with (fail)
      refine bodyPost_ret (v := .tuple #[.agg cJ, .int .i64 0]) (results_agg_tmp rfl _ _ b4 29 _ (0, 0) _ rfl kz Try.underlying29 rfl hsJ rfl) rfl ⟨rfl, ?_⟩
      exact hV15.trans' hXz (fun i hm hi => by simp at hm; omega)
  · have d1 : decide (bi > ai) = false := by simpa using hgt
    have d2 : (bi == ai) = false := by simpa using heq
    have hTK : TK = false := by rw [HTK.out, d1, d2]; simp
    clear hgt heq
    go_wp2_with (fail)
    refine wp_region_quiet_all (Upd [] w6) (by kernel_rfl) (by kernel_rfl) (Upd.refl _ _).drew ?_
    refine wpQuiet_step (fun K hK => ?_)
    go_simp
    first
      | (refine ⟨_, fun _ _ => rfl, hK _ ?_⟩; clear hK K)
      | (refine hK _ ?_; clear hK K)
    repeat (first
      | go_big_quiet_skip
      | (refine wpQuiet_valK rfl (quiet_of_yields (yields_cell (p := ⟨b2, 99, none⟩) rfl HQ1.out Try.underlying3 rfl)) (fun K hK => ?_); go_simp; refine hK _ ?_; clear hK K)
      | (refine wpQuiet_valK rfl (quiet_of_yields (yields_cell (p := ⟨b3, 99, none⟩) rfl HQ2.out Try.underlying3 rfl)) (fun K hK => ?_); go_simp; refine hK _ ?_; clear hK K)
      | go_big_quiet_step ((intro hw2; first
          | rfl
          | ((with_reducible refine (HAB.out _ hw2).mono ?_); exact fun e w' h => ⟨h.1, hw2.trans h.2⟩)
          )))
    refine wpQuiet_nil ?_
    intro w7 hU7
    have m2 := HM2.out.upd hU7 (by simp)
    have m3 := HM3.out.upd hU7 (by simp)
    have m4 := hU7.heap HM4.out (by simp)
    have m6 := HM6.out.upd hU7 (by simp)
    have hV7 := HV6.out.trans hU7
    clear hU7 HQ1 HQ2 HAB
    clear d1 d2
    have c2 := m2.fz HA.out
    have c3 := m3.fz HB.out
    have y2 := m2.fs HA.out
    have y3 := m3.fs HB.out
    rw [HFA.out] at y2
    rw [HFB.out] at y3
    go_wp2_with (first
        | (with_reducible refine arm_load_mid (g := b2) (k := 133) (by with_unfolding_all exact rfl) y2 Try.underlying25 rfl hsfa ?_)
        | (with_reducible refine arm_load_mid (g := b3) (k := 133) (by with_unfolding_all exact rfl) y3 Try.underlying25 rfl hsfb ?_)
        )
    with_reducible refine (HSE1.out _).mono ?_
    rintro e w8 ⟨rfl, hU⟩
    have m2' := m2.upd hU (by simp)
    clear m2
    have m2 := m2'
    clear m2'
    have m3' := m3.upd hU (by simp)
    clear m3
    have m3 := m3'
    clear m3'
    have m4' := hU.heap m4 (by simp)
    clear m4
    have m4 := m4'
    clear m4'
    have m6' := m6.upd hU (by simp)
    clear m6
    have m6 := m6'
    clear m6'
    have hV8 := hV7.trans hU
    clear hU hV7
    clear c2 c3 y2 y3
    have kk : w8.heap[b6]? = some (.cells (entC e1).toArray 29 (0, 0)) := m6
    clear m6
    have hk9 : 132 + ([.bool G1] : List Value).length ≤ (entC e1).length := by rw [entC_length HO1.out]; simp
    go_wp2_with (first
        | (with_reducible refine arm_store_part (g := b6) (k := 132) (cs := [.bool G1]) (by with_unfolding_all exact rfl) (by with_unfolding_all exact rfl) kk (by with_unfolding_all exact rfl) hk9 (by with_unfolding_all exact size_bool1) (one_list1 (by with_unfolding_all exact rfl)) ?_)
        )
    intro w9 kn hX hz
    rw [splice_fz _ HO1.out] at kn
    obtain ⟨e9, he9⟩ : ∃ e, ({ e1 with fz := G1 } : Ent) = e := ⟨_, rfl⟩
    have HE9 := Lib.hid he9
    have HO9 : Hid e9.ok := by rw [← he9]; exact ⟨HO1.out.1, HO1.out.2⟩
    rw [he9] at kn
    have m6 : EntAt w9 b6 e9 := kn
    have hV9 := hV8.trans' hX (fun i hm hi => by simp at hm; omega)
    have m2' := m2.upd hX (by simpa using h26)
    clear m2
    have m2 := m2'
    clear m2'
    have m3' := m3.upd hX (by simpa using h36)
    clear m3
    have m3 := m3'
    clear m3'
    have m4' := hX.heap m4 (by simpa using h46)
    clear m4
    have m4 := m4'
    clear m4'
    clear kk kn hX hz he9 hk9 hV8
    have kk : w9.heap[b6]? = some (.cells (entC e9).toArray 29 (0, 0)) := m6
    clear m6
    have hk10 : 133 + (s1 : List Value).length ≤ (entC e9).length := by rw [entC_length HO9.out]; rw [← HS1.out, List.length_map, HSL1.out]; omega
    go_wp2_with (first
        | (with_reducible refine arm_store_part (g := b6) (k := 133) (cs := s1) (by with_unfolding_all exact rfl) (by with_unfolding_all exact rfl) kk (by with_unfolding_all exact rfl) hk10 (by with_unfolding_all exact hg1) (one_map HS1.out) ?_)
        )
    intro w10 kn hX hz
    rw [← HS1.out, splice_fs _ HO9.out F1 HSL1.out] at kn
    obtain ⟨e10, he10⟩ : ∃ e, ({ e9 with fs := F1 } : Ent) = e := ⟨_, rfl⟩
    have HE10 := Lib.hid he10
    have HO10 : Hid e10.ok := by rw [← he10]; exact ⟨HO9.out.1, HO9.out.2.1, HSL1.out, HO9.out.2.2.2⟩
    rw [he10] at kn
    have m6 : EntAt w10 b6 e10 := kn
    have hV10 := hV9.trans' hX (fun i hm hi => by simp at hm; omega)
    have m2' := m2.upd hX (by simpa using h26)
    clear m2
    have m2 := m2'
    clear m2'
    have m3' := m3.upd hX (by simpa using h36)
    clear m3
    have m3 := m3'
    clear m3'
    have m4' := hX.heap m4 (by simpa using h46)
    clear m4
    have m4 := m4'
    clear m4'
    clear kk kn hX hz he10 hk10 hV9
    have c2 := m2.rv HA.out
    have c3 := m3.rv HB.out
    have y2 := m2.rs HA.out
    have y3 := m3.rs HB.out
    rw [HRA.out] at y2
    rw [HRB.out] at y3
    go_wp2_with (first
        | (with_reducible refine arm_load_mid (g := b2) (k := 198) (by with_unfolding_all exact rfl) y2 Try.underlying25 rfl hsra ?_)
        | (with_reducible refine arm_load_mid (g := b3) (k := 198) (by with_unfolding_all exact rfl) y3 Try.underlying25 rfl hsrb ?_)
        )
    with_reducible refine (HSE2.out _).mono ?_
    rintro e w11 ⟨rfl, hU⟩
    have m2' := m2.upd hU (by simp)
    clear m2
    have m2 := m2'
    clear m2'
    have m3' := m3.upd hU (by simp)
    clear m3
    have m3 := m3'
    clear m3'
    have m4' := hU.heap m4 (by simp)
    clear m4
    have m4 := m4'
    clear m4'
    have m6' := m6.upd hU (by simp)
    clear m6
    have m6 := m6'
    clear m6'
    have hV11 := hV10.trans hU
    clear hU hV10
    clear c2 c3 y2 y3
    have kk : w11.heap[b6]? = some (.cells (entC e10).toArray 29 (0, 0)) := m6
    clear m6
    have hk12 : 197 + ([.bool G2] : List Value).length ≤ (entC e10).length := by rw [entC_length HO10.out]; simp
    go_wp2_with (first
        | (with_reducible refine arm_store_part (g := b6) (k := 197) (cs := [.bool G2]) (by with_unfolding_all exact rfl) (by with_unfolding_all exact rfl) kk (by with_unfolding_all exact rfl) hk12 (by with_unfolding_all exact size_bool1) (one_list1 (by with_unfolding_all exact rfl)) ?_)
        )
    intro w12 kn hX hz
    rw [splice_rv _ HO10.out] at kn
    obtain ⟨e12, he12⟩ : ∃ e, ({ e10 with rv := G2 } : Ent) = e := ⟨_, rfl⟩
    have HE12 := Lib.hid he12
    have HO12 : Hid e12.ok := by rw [← he12]; exact ⟨HO10.out.1, HO10.out.2⟩
    rw [he12] at kn
    have m6 : EntAt w12 b6 e12 := kn
    have hV12 := hV11.trans' hX (fun i hm hi => by simp at hm; omega)
    have m2' := m2.upd hX (by simpa using h26)
    clear m2
    have m2 := m2'
    clear m2'
    have m3' := m3.upd hX (by simpa using h36)
    clear m3
    have m3 := m3'
    clear m3'
    have m4' := hX.heap m4 (by simpa using h46)
    clear m4
    have m4 := m4'
    clear m4'
    clear kk kn hX hz he12 hk12 hV11
    have kk : w12.heap[b6]? = some (.cells (entC e12).toArray 29 (0, 0)) := m6
    clear m6
    have hk13 : 198 + (s2 : List Value).length ≤ (entC e12).length := by rw [entC_length HO12.out]; rw [← HS2.out, List.length_map, HSL2.out]; omega
    go_wp2_with (first
        | (with_reducible refine arm_store_part (g := b6) (k := 198) (cs := s2) (by with_unfolding_all exact rfl) (by with_unfolding_all exact rfl) kk (by with_unfolding_all exact rfl) hk13 (by with_unfolding_all exact hg2) (one_map HS2.out) ?_)
        )
    intro w13 kn hX hz
    rw [← HS2.out, splice_rs _ HO12.out F2 HSL2.out] at kn
    obtain ⟨e13, he13⟩ : ∃ e, ({ e12 with rs := F2 } : Ent) = e := ⟨_, rfl⟩
    have HE13 := Lib.hid he13
    have HO13 : Hid e13.ok := by rw [← he13]; exact ⟨HO12.out.1, HO12.out.2.1, HO12.out.2.2.1, HSL2.out⟩
    rw [he13] at kn
    have m6 : EntAt w13 b6 e13 := kn
    have hV13 := hV12.trans' hX (fun i hm hi => by simp at hm; omega)
    have m2' := m2.upd hX (by simpa using h26)
    clear m2
    have m2 := m2'
    clear m2'
    have m3' := m3.upd hX (by simpa using h36)
    clear m3
    have m3 := m3'
    clear m3'
    have m4' := hX.heap m4 (by simpa using h46)
    clear m4
    have m4 := m4'
    clear m4'
    clear kk kn hX hz he13 hk13 hV12
    have hEJ : e13 = J := by
      rw [HJ.out, hTK, ← HE13.out, ← HE12.out, ← HE10.out, ← HE9.out, ← HE1.out]
      simp [HAI.out]
    rw [hEJ] at m6
    have m6c : w13.heap[b6]? = some (.cells cJ 29 (0, 0)) := by rw [← HCJ.out]; exact m6
    clear m6
    go_wp2_with (first
        | (with_reducible refine arm_load (by with_unfolding_all exact rfl) m6c Try.underlying29 (by with_unfolding_all exact rfl) hsJ ?_)
        | (with_reducible refine arm_store (by with_unfolding_all exact rfl) (by with_unfolding_all exact rfl) m4 hsJ hoJ haJ ?_)
        )
    intro wz kz hXz hzz
    go_wp2_with (fail)
    refine bodyPost_ret (v := .tuple #[.agg cJ, .int .i64 0]) (results_agg_tmp rfl _ _ b4 29 _ (0, 0) _ rfl kz Try.underlying29 rfl hsJ rfl) rfl ⟨rfl, ?_⟩
    exact hV13.trans' hXz (fun i hm hi => by simp at hm; omega)
end Go.Proofs.Ytjoliagnhmfdiaa
