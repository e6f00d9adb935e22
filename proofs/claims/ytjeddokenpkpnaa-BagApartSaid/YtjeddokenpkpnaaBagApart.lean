/-
  BagApart: the law.
-/
import Derived.Test.YtjeddokenpkpnaaExC
import Derived.Test.YtjeddokenpkpnaaHoist2
import Derived.Test.YtjeddokenpkpnaaOpenBytes
namespace Go.Proofs.Ytjeddokenpkpnaa
open Go Go.RowKit Go.Proofs Go.Maps
theorem built_msgB (A : Option Addr) (n c : Nat) : Try.prog.built 32 [(3, .slice A n c)] = some (msgC 0 0 0 (.slice A n c)) := by kernel_rfl
theorem built_msgT : Try.prog.built 32 [(2, .int .i64 72)] = some (msgC 0 0 72 (.slice none 0 0)) := by kernel_rfl
theorem arm_build_1 {P : Program} {ops : Array Oper} {rest : List Oper} {a : Act} {w : World} {Q : Exit → Act → World → Prop} {dst : Option Tmp} {ty type : TypeId} {pos : String} {after : Array Edge} {i : Nat} {x0 : Operand} {v0 : Value} {cs : Array Value}
    (h0 : a.eval x0 = v0) (hf : P.built ty [(i, v0)] = some cs) (h : wpList P ops Q rest (a.put dst (.agg cs)) w) : wpList P ops Q (⟨dst, .build ty #[(i, x0)], type, pos, after, none⟩ :: rest) a w := by
  subst h0
  exact arm_build (by simpa using hf) h
theorem arm_bs9 {P : Program} {ops : Array Oper} {rest : List Oper} {a : Act} {w : World} {Q : Exit → Act → World → Prop} {dst : Option Tmp} {ty type e : TypeId} {pos : String} {after : Array Edge} {x0 x1 x2 x3 x4 x5 x6 x7 x8 : Operand} {ie : TypeInfo} {z : Value}
    (hu : P.underlying ty = some (.slice e)) (hie : P.info? e = some ie) (hs : ie.size = 1) (hz : ie.zero = some z) (hz1 : z.cells = #[z]) {v0 v1 v2 v3 v4 v5 v6 v7 v8 : Value} (h0 : a.eval x0 = v0) (h1 : a.eval x1 = v1) (h2 : a.eval x2 = v2) (h3 : a.eval x3 = v3) (h4 : a.eval x4 = v4) (h5 : a.eval x5 = v5) (h6 : a.eval x6 = v6) (h7 : a.eval x7 = v7) (h8 : a.eval x8 = v8)
    (hc : ∀ v ∈ [v0, v1, v2, v3, v4, v5, v6, v7, v8], v.cells = #[v])
    (h : ∀ g w', w.heap.size = g → w'.heap[g]? = some (.cells #[v0, v1, v2, v3, v4, v5, v6, v7, v8] e (0, 0)) → Upd [] w w' → wpList P ops Q rest (a.put dst (.slice (some ⟨g, 0, none⟩) 9 9)) w') :
    wpList P ops Q (⟨dst, .buildSlice ty 9 #[(0, x0), (1, x1), (2, x2), (3, x3), (4, x4), (5, x5), (6, x6), (7, x7), (8, x8)], type, pos, after, none⟩ :: rest) a w := by
  have c0 := hc v0 (by simp)
  have c1 := hc v1 (by simp)
  have c2 := hc v2 (by simp)
  have c3 := hc v3 (by simp)
  have c4 := hc v4 (by simp)
  have c5 := hc v5 (by simp)
  have c6 := hc v6 (by simp)
  have c7 := hc v7 (by simp)
  have c8 := hc v8 (by simp)
  exact wpList_buildSlice rfl ty e 9 _ rfl #[v0, v1, v2, v3, v4, v5, v6, v7, v8] ie z hu hie hz (by rw [hs]; decide) (by rw [hs]; decide) (by simp [hs, hz1, h0, h1, h2, h3, h4, h5, h6, h7, h8, Instr.fill, c0, c1, c2, c3, c4, c5, c6, c7, c8, show Array.range 9 = #[0, 1, 2, 3, 4, 5, 6, 7, 8] from by decide]) (h _ _ rfl (hget_new rfl) ((Upd.refl _ w).alloc _))
/-- rows of bytes of one's own, none of which shares a block with another -/
structure Fam (w : World) (B : Nat) (ps : List Value) (ls : Nat → List (BitVec 8)) : Prop where
  own : ∀ (i : Nat) (h : i < ps.length), OwnB w B ps[i] (ls i)
  apart : ∀ (i j : Nat) (hi : i < ps.length) (hj : j < ps.length), i ≠ j → ∀ k, ps[i].ownBlock = some k → ps[j].ownBlock ≠ some k
/-- their blocks -/
def SF (ps : List Value) : List Nat := ps.flatMap fun v => v.ownBlock.toList
theorem mem_SF {ps : List Value} {k : Nat} : k ∈ SF ps ↔ ∃ (i : Nat) (h : i < ps.length), ps[i].ownBlock = some k := by
  unfold SF
  rw [List.mem_flatMap]
  constructor
  · rintro ⟨v, hv, hk⟩
    obtain ⟨i, hi, rfl⟩ := List.getElem_of_mem hv
    exact ⟨i, hi, by simpa using hk⟩
  · rintro ⟨i, hi, hk⟩
    exact ⟨ps[i], List.getElem_mem hi, by simpa using hk⟩
theorem Fam.upd {w w' : World} {B : Nat} {ps : List Value} {ls : Nat → List (BitVec 8)} {S : List Nat} (h : Fam w B ps ls) (u : Upd S w w') (hn : ∀ k ∈ SF ps, k ∉ S) : Fam w' B ps ls :=
  ⟨fun i hi => (h.own i hi).upd u (fun k hk => hn k (mem_SF.2 ⟨i, hi, hk⟩)), h.apart⟩
theorem Fam.upd0 {w w' : World} {B : Nat} {ps : List Value} {ls : Nat → List (BitVec 8)} (h : Fam w B ps ls) (u : Upd [] w w') : Fam w' B ps ls := h.upd u (by simp)
theorem Fam.set {w w' : World} {B : Nat} {ps : List Value} {ls : Nat → List (BitVec 8)} (h : Fam w B ps ls) (i : Nat) (hi : i < ps.length) (u : Upd ps[i].ownBlock.toList w w') {l : List (BitVec 8)} (ho : OwnB w' B ps[i] l) : Fam w' B ps (fun j => if j = i then l else ls j) := by
  refine ⟨fun j hj => ?_, h.apart⟩
  by_cases e : j = i
  · subst e; simpa using ho
  · simp only [if_neg e]
    exact (h.own j hj).upd u (fun k hk hm => h.apart j i hj hi e k hk (by simpa using hm))
theorem Fam.lt {w : World} {B : Nat} {ps : List Value} {ls : Nat → List (BitVec 8)} (h : Fam w B ps ls) : ∀ k ∈ SF ps, B ≤ k ∧ k < w.heap.size := fun k hk => by
  obtain ⟨i, hi, hk⟩ := mem_SF.1 hk
  exact (h.own i hi).lt k hk
theorem Fam.type {w : World} {B : Nat} {ps : List Value} {ls : Nat → List (BitVec 8)} (h : Fam w B ps ls) : ∀ k ∈ SF ps, ∃ C fr, w.heap[k]? = some (.cells C 5 fr) := fun k hk => by
  obtain ⟨i, hi, hk⟩ := mem_SF.1 hk
  exact own_type (h.own i hi) hk
theorem Fam.ne {w : World} {B : Nat} {ps : List Value} {ls : Nat → List (BitVec 8)} (h : Fam w B ps ls) {k : Nat} {C : Array Value} {T : TypeId} {fr : Nat × Nat} (hk : w.heap[k]? = some (.cells C T fr)) (hT : T ≠ 5) : k ∉ SF ps := fun hm => by
  obtain ⟨C', fr', h1⟩ := h.type k hm
  exact heap_ne hk h1 hT rfl
theorem Fam.bag {w w' : World} {B : Nat} {ps : List Value} {ls : Nat → List (BitVec 8)} (h : Fam w B ps ls) {lo bb bm last : Nat} {es : List Ent} {D : DataW Value} (hb : BagAt w lo bb bm last es D) (u : Upd (SF ps) w w') (ha : ∀ e ∈ es, ∀ k, e.v.ownBlock = some k → k ∉ SF ps) : BagAt w' lo bb bm last es D :=
  hb.upd u (h.ne hb.cells (by decide)) (fun hm => by obtain ⟨C, fr, h1⟩ := h.type bm hm; exact map_ne hb.map h1 rfl) ha
theorem sub_SF {ps : List Value} (i : Nat) (hi : i < ps.length) : ∀ k ∈ ps[i].ownBlock.toList, k ∈ SF ps := fun k hk => mem_SF.2 ⟨i, hi, by simpa using hk⟩
theorem Fam.congr {w : World} {B : Nat} {ps : List Value} {ls ls' : Nat → List (BitVec 8)} (h : Fam w B ps ls) (e : ∀ i, i < ps.length → ls i = ls' i) : Fam w B ps ls' := ⟨fun i hi => by rw [← e i hi]; exact h.own i hi, h.apart⟩
/-- the first k bytes written over -/
def run24 (b : BitVec 8) (k : Nat) (l : List (BitVec 8)) : List (BitVec 8) := List.replicate k b ++ l.drop k
theorem run24_length (b : BitVec 8) (k : Nat) (l : List (BitVec 8)) (h : k ≤ l.length) : (run24 b k l).length = l.length := by simp [run24]; omega
theorem run24_set (b : BitVec 8) (k : Nat) (l : List (BitVec 8)) (h : k < l.length) : (run24 b k l).set k b = run24 b (k + 1) l := by
  unfold run24
  rw [List.set_append_right _ _ (by simp), List.length_replicate, Nat.sub_self, List.drop_eq_getElem_cons h, List.set_cons_zero, List.replicate_succ', List.append_assoc]
  rfl
theorem run24_all (b : BitVec 8) (l : List (BitVec 8)) (n : Nat) (h : l.length = n) : run24 b n l = List.replicate n b := by simp [run24, ← h]
theorem run24_get (b : BitVec 8) (k : Nat) (l : List (BitVec 8)) (h : k < l.length) : (run24 b k l)[k]? = some l[k] := by
  unfold run24
  rw [List.getElem?_append_right (by simp)]
  simp [h]
theorem info_bytes : ∃ i, Try.prog.info? 27 = some i ∧ i.zero = some (.slice none 0 0) ∧ i.size = 1 := by
  have h : (Try.prog.info? 27).map (fun i => (i.zero, i.size)) = some (some (.slice none 0 0), 1) := by kernel_rfl
  cases hq : Try.prog.info? 27 with
  | none => rw [hq] at h; cases h
  | some i =>
    rw [hq] at h
    simp at h
    exact ⟨i, rfl, h⟩
set_option maxRecDepth 100000 in
set_option maxHeartbeats 12800000 in
theorem law_apart24 (w : World) (v : Value) (body : List (BitVec 8)) (h : RdB w v body) :
    Calls Try.prog 6 #[v] w fun e w' => e = .returned (.bool true) ∧ Upd [] w w' := by
  obtain ⟨A, c, eA, hlc, hcm⟩ := h.isSlice
  subst eA
  obtain ⟨N, hN⟩ : ∃ n, body.length = n := ⟨_, rfl⟩
  rw [hN] at h hlc ⊢
  have HN := Lib.hid hN
  have HR := Lib.hid h
  have hNi : (N : Int) ≤ 9223372036854775807 := by simp only [maxLen] at hcm; omega
  clear h hlc hcm hN
  by_cases hl : 1024 < N
  · have hli : (1024 : Int) < (N : Int) := by omega
    clear hl
    go_enter Try.func6, Try.ntmps6
    go_wp2_with (fail)
    refine (holds_ _).mono ?_
    rintro e w1 ⟨rfl, hU1⟩
    have HU1 := Lib.hid hU1
    clear hU1
    go_wp2_with (fail)
    go_ret
    exact ⟨rfl, HU1.out⟩
  · have hli : (N : Int) ≤ 1024 := by omega
    have HL : Hid (N ≤ 1024) := by show N ≤ 1024; omega
    clear hl hNi
    go_enter Try.func6, Try.ntmps6
    have hO0 : Upd [] w (w.alloc (.cells #[] 5)) := (Upd.refl _ _).alloc _
    have HR0 := Lib.hid (HR.out.upd0 hO0)
    have HO0 := Lib.hid hO0
    clear hO0
    go_wp2_with (refine append_rd rfl _ _ rfl w.heap.size _ [] (by with_unfolding_all exact rfl) (own_empty _) _ body (by with_unfolding_all exact rfl) HR0.out (by rw [HN.out]; have := HL.out; simp; omega) (by simp) ?_)
    intro vm w1 hO1 _ hU1 _
    have hO1 : OwnB w1 w.heap.size vm body := hO1
    have HU : Hid (Upd [] w w1) := HO0.out.trans' hU1 (fun k hm hl => by simp [Value.ownBlock] at hm; omega)
    obtain ⟨MA, mc, em⟩ := hO1.isSlice
    rw [HN.out] at em
    subst em
    have HMI := Lib.hid hO1
    have HRm : Hid (∀ k, (Value.slice MA N mc).ownBlock = some k → w.heap.size ≤ k ∧ k < w1.heap.size) := hO1.lt
    clear hO1 hU1
    go_wp2_with (fail)
    refine (new_ _).mono ?_
    rintro e w2 ⟨bb, bm, D2, rfl, hB2, hU2⟩
    have HBG := Lib.hid hB2
    have HM12 : Hid (w1.heap.size ≤ w2.heap.size) := hU2.size
    have HB2L : Hid (bb < w2.heap.size ∧ bm < w2.heap.size) := hB2.lt
    have HRW : Hid (w.heap.size ≤ w1.heap.size) := HU.out.size
    have HMI := Lib.hid (HMI.out.upd0 hU2)
    have HU := Lib.hid (HU.out.trans hU2)
    clear hB2 hU2
    go_wp2_with (fail)
    refine (new_ _).mono ?_
    rintro e w3 ⟨cc, cm, D3, rfl, hC3, hU3⟩
    have HCG := Lib.hid hC3
    have HMI := Lib.hid (HMI.out.upd0 hU3)
    have HBG := Lib.hid (HBG.out.upd0 hU3)
    have HM23 : Hid (w2.heap.size ≤ w3.heap.size) := hU3.size
    have HU := Lib.hid (HU.out.trans hU3)
    clear hC3 hU3
    go_wp2_with (fail)
    refine (holds_ _).mono ?_
    rintro e w4 ⟨rfl, hU4⟩
    have HMI := Lib.hid (HMI.out.upd0 hU4)
    have HBG := Lib.hid (HBG.out.upd0 hU4)
    have HCG := Lib.hid (HCG.out.upd0 hU4)
    have HM34 : Hid (w3.heap.size ≤ w4.heap.size) := hU4.size
    have HU := Lib.hid (HU.out.trans hU4)
    have hbm := built_msgB MA N mc
    clear hU4
    go_wp2_with (with_reducible refine arm_build_1 (by with_unfolding_all exact rfl) hbm ?_)
    refine (put_ _ w1.heap.size bb bm 0 [] D2 HBG.out 0 0 0 (.slice MA N mc) body HMI.out.rd (by rw [HN.out]; exact HL.out) (by decide) (by decide)).mono ?_
    rintro e w5 ⟨v1, D5, rfl, hB5, hn5, hU5⟩
    have hB5 : BagAt w5 w1.heap.size bb bm 1 [⟨1, 0, 0, v1, body⟩] D5 := by simpa using hB5
    have HRa : Hid (∀ k, v1.ownBlock = some k → w4.heap.size ≤ k ∧ k < w5.heap.size) := fun k hk => ⟨hn5 k hk, ((hB5.rows ⟨1, 0, 0, v1, body⟩ (by simp)).lt k hk).2⟩
    have HCG := Lib.hid (HCG.out.upd hU5 (fun hm => by have h1 := HBG.out.lt; have h2 := HCG.out.low; have h3 := HB2L.out; simp at hm; omega) (fun hm => by have h1 := HBG.out.lt; have h2 := HCG.out.low; have h3 := HB2L.out; simp at hm; omega) (fun e he => by cases he))
    have HMI := Lib.hid (HMI.out.upd hU5 (fun k hk hm => by
      simp only [List.mem_cons, List.not_mem_nil, or_false] at hm
      rcases hm with rfl | rfl
      · exact cells_ne HMI.out HBG.out.cells (by decide) hk
      · exact mapb_ne HMI.out HBG.out.map hk))
    have HU : Hid (Upd [] w w5) := HU.out.trans' hU5 (fun k hm hl => by have := HBG.out.low; have := HRW.out; simp at hm; omega)
    have HBG := Lib.hid hB5
    have HM45 : Hid (w4.heap.size ≤ w5.heap.size) := hU5.size
    have hf1 : findE [(⟨1, 0, 0, v1, body⟩ : Ent)] 1 = some ⟨1, 0, 0, v1, body⟩ := findE_one _
    have HF1 := Lib.hid hf1
    clear hB5 hn5 hU5 hbm hf1
    go_wp2_with (fail)
    refine (double_ _ w1.heap.size bb bm 1 _ D5 HBG.out 1 (wf_small (by decide) (by decide)) _ HF1.out (by decide) (by simp)).mono ?_
    rintro e w6 ⟨v2, D6, rfl, hB6, hn6, hU6⟩
    have hB6 : BagAt w6 w1.heap.size bb bm 2 [⟨1, 0, 0, v1, body⟩, ⟨2, 0, 0, v2, body⟩] D6 := by simpa using hB6
    have HRb : Hid (∀ k, v2.ownBlock = some k → w5.heap.size ≤ k ∧ k < w6.heap.size) := fun k hk => ⟨hn6 k hk, ((hB6.rows ⟨2, 0, 0, v2, body⟩ (by simp)).lt k hk).2⟩
    have HCG := Lib.hid (HCG.out.upd hU6 (fun hm => by have h2 := HCG.out.low; have h3 := HB2L.out; simp at hm; omega) (fun hm => by have h2 := HCG.out.low; have h3 := HB2L.out; simp at hm; omega) (fun e he => by cases he))
    have HMI := Lib.hid (HMI.out.upd hU6 (fun k hk hm => by
      simp only [List.mem_cons, List.not_mem_nil, or_false] at hm
      rcases hm with rfl | rfl
      · exact cells_ne HMI.out HBG.out.cells (by decide) hk
      · exact mapb_ne HMI.out HBG.out.map hk))
    have HU : Hid (Upd [] w w6) := HU.out.trans' hU6 (fun k hm hl => by have := HBG.out.low; have := HRW.out; simp at hm; omega)
    have HM56 : Hid (w5.heap.size ≤ w6.heap.size) := hU6.size
    have HBG := Lib.hid hB6
    clear hB6 hn6 hU6
    go_wp2_with (fail)
    refine (len_ _ _ cc cm 0 [] D3 HCG.out).mono ?_
    rintro e w6' ⟨rfl, hw⟩
    rw [hw]
    clear hw
    have HF1 : Hid (findE [(⟨1, 0, 0, v1, body⟩ : Ent), ⟨2, 0, 0, v2, body⟩] 1 = some ⟨1, 0, 0, v1, body⟩) := by show findE [(⟨1, 0, 0, v1, body⟩ : Ent), ⟨2, 0, 0, v2, body⟩] 1 = some ⟨1, 0, 0, v1, body⟩; simp [findE]
    have HF2 : Hid (findE [(⟨1, 0, 0, v1, body⟩ : Ent), ⟨2, 0, 0, v2, body⟩] 2 = some ⟨2, 0, 0, v2, body⟩) := by show findE [(⟨1, 0, 0, v1, body⟩ : Ent), ⟨2, 0, 0, v2, body⟩] 2 = some ⟨2, 0, 0, v2, body⟩; simp [findE]
    go_wp2_with (fail)
    refine (get_ _ w1.heap.size bb bm 2 _ D6 HBG.out 1 (wf_small (by decide) (by decide)) _ HF1.out).mono ?_
    rintro e w7 ⟨vx, rfl, hO, hU⟩
    have hO : OwnB w7 w6.heap.size vx body := hO
    have HRvx : Hid (∀ k, vx.ownBlock = some k → w6.heap.size ≤ k ∧ k < w7.heap.size) := hO.lt
    have HMw6w7 : Hid (w6.heap.size ≤ w7.heap.size) := hU.size
    obtain ⟨vxA, vxc, ev⟩ := hO.isSlice
    rw [HN.out] at ev
    have hvo : vx.oneCell' = true := by rw [ev]; rfl
    have HEvx := Lib.hid ev
    clear ev
    have HMI := Lib.hid (HMI.out.upd0 hU)
    have HBG := Lib.hid (HBG.out.upd0 hU)
    have HOvx := Lib.hid hO
    have HU := Lib.hid (HU.out.trans hU)
    have hsm := size_msg 1 0 0 vx
    have hom := one_msg 1 0 0 hvo
    clear hO hU
    go_wp2_with (with_reducible refine arm_alloc (zero_msg _) ?_)
    intro b10 w8 hb kb hU hz
    change w8.heap[b10]? = some (.cells (msgC 0 0 0 (.slice none 0 0)) 32 (0, 0)) at kb
    have HBX : Hid (w7.heap.size = b10) := hb
    have HUb := Lib.hid hU
    clear hb hz hU
    go_wp2_with (with_reducible refine arm_store (by with_unfolding_all exact rfl) (by with_unfolding_all exact rfl) kb hsm (by with_unfolding_all exact rfl) hom ?_)
    intro w9 kb' hX hz
    have hU : Upd [] w7 w9 := HUb.out.trans' hX (fun k hm hl => by have := List.mem_singleton.1 hm; have := HBX.out; omega)
    have HMw7w9 : Hid (w7.heap.size ≤ w9.heap.size) := hU.size
    have HMI := Lib.hid (HMI.out.upd0 hU)
    have HBG := Lib.hid (HBG.out.upd0 hU)
    have HOvx := Lib.hid (HOvx.out.upd0 hU)
    have HKvx := Lib.hid kb'
    have HU := Lib.hid (HU.out.trans hU)
    clear kb kb' hX hz hU hsm hom hvo HBX HUb
    go_wp2_with (fail)
    refine (get_ _ w1.heap.size bb bm 2 _ D6 HBG.out 2 (wf_small (by decide) (by decide)) _ HF2.out).mono ?_
    rintro e w10 ⟨vy, rfl, hO, hU⟩
    have hO : OwnB w10 w9.heap.size vy body := hO
    have HRvy : Hid (∀ k, vy.ownBlock = some k → w9.heap.size ≤ k ∧ k < w10.heap.size) := hO.lt
    have HMw9w10 : Hid (w9.heap.size ≤ w10.heap.size) := hU.size
    obtain ⟨vyA, vyc, ev⟩ := hO.isSlice
    rw [HN.out] at ev
    have hvo : vy.oneCell' = true := by rw [ev]; rfl
    have HEvy := Lib.hid ev
    clear ev
    have HMI := Lib.hid (HMI.out.upd0 hU)
    have HBG := Lib.hid (HBG.out.upd0 hU)
    have HOvx := Lib.hid (HOvx.out.upd0 hU)
    have HKvx := Lib.hid (hU.heap HKvx.out (by simp))
    have HOvy := Lib.hid hO
    have HU := Lib.hid (HU.out.trans hU)
    have hsm := size_msg 2 0 0 vy
    have hom := one_msg 2 0 0 hvo
    clear hO hU
    go_wp2_with (with_reducible refine arm_alloc (zero_msg _) ?_)
    intro b12 w11 hb kb hU hz
    change w11.heap[b12]? = some (.cells (msgC 0 0 0 (.slice none 0 0)) 32 (0, 0)) at kb
    have HBX : Hid (w10.heap.size = b12) := hb
    have HUb := Lib.hid hU
    clear hb hz hU
    go_wp2_with (with_reducible refine arm_store (by with_unfolding_all exact rfl) (by with_unfolding_all exact rfl) kb hsm (by with_unfolding_all exact rfl) hom ?_)
    intro w12 kb' hX hz
    have hU : Upd [] w10 w12 := HUb.out.trans' hX (fun k hm hl => by have := List.mem_singleton.1 hm; have := HBX.out; omega)
    have HMw10w12 : Hid (w10.heap.size ≤ w12.heap.size) := hU.size
    have HMI := Lib.hid (HMI.out.upd0 hU)
    have HBG := Lib.hid (HBG.out.upd0 hU)
    have HOvx := Lib.hid (HOvx.out.upd0 hU)
    have HKvx := Lib.hid (hU.heap HKvx.out (by simp))
    have HOvy := Lib.hid (HOvy.out.upd0 hU)
    have HKvy := Lib.hid kb'
    have HU := Lib.hid (HU.out.trans hU)
    clear kb kb' hX hz hU hsm hom hvo HBX HUb
    go_wp2_with (fail)
    refine (list_ _ w1.heap.size bb bm 2 _ D6 HBG.out (by decide)).mono ?_
    rintro e w13 ⟨lv, tz, rfl, hts, hM, hU⟩
    have htl : tz.length = 2 := by
      have := congrArg List.length hts
      simpa using this
    obtain ⟨t0, t1, rfl⟩ : ∃ x y, tz = [x, y] := by
      match tz, htl with
      | [x, y], _ => exact ⟨x, y, rfl⟩
    have HClv : Hid (t0.to = 0 ∧ t0.b = body ∧ t1.b = body) := by
      simp only [List.map_cons, List.map_nil, Ent.core, List.cons.injEq, Prod.mk.injEq, and_true] at hts
      exact ⟨hts.1.2.2.1, hts.1.2.2.2, hts.2.2.2.2⟩
    have HRLlv : Hid (∀ k, footM lv [t0, t1] k → w12.heap.size ≤ k ∧ k < w13.heap.size) := hM.lt
    obtain ⟨gl, lvc, curlv, ev, hgB, hgc, hg1, hg2, hg3, hg4⟩ := OwnA.at hM.row (by simp)
    have HXlv : Hid (w13.heap[gl]? = some (.cells curlv 32 (0, 0))) := hgc
    have HYlv : Hid (w12.heap.size ≤ gl ∧ 2 ≤ lvc ∧ lvc ≤ maxLen ∧ curlv.size = lvc * 4 ∧ curlv.toList.take 8 = [t0, t1].flatMap fun t => t.cells.toList) := ⟨hgB, hg1, hg2, hg3, by simpa using hg4⟩
    rw [List.length_map] at ev
    change lv = .slice (some ⟨gl, 0, none⟩) 2 lvc at ev
    subst ev
    have HTlv : Hid (OwnB w13 w12.heap.size t0.v body ∧ OwnB w13 w12.heap.size t1.v body ∧ ∀ k, t0.v.ownBlock = some k → t1.v.ownBlock ≠ some k) := by
      have h1 := hM.bodies t0 (by simp)
      have h2 := hM.bodies t1 (by simp)
      rw [HClv.out.2.1] at h1
      rw [HClv.out.2.2] at h2
      exact ⟨h1, h2, (List.pairwise_cons.1 hM.apart).1 t1 (by simp)⟩
    have HOt0 := Lib.hid HTlv.out.1
    have HOt1 := Lib.hid HTlv.out.2.1
    have HMw12w13 : Hid (w12.heap.size ≤ w13.heap.size) := hU.size
    clear htl hgB hgc hg1 hg2 hg3 hg4
    have HMI := Lib.hid (HMI.out.upd0 hU)
    have HBG := Lib.hid (HBG.out.upd0 hU)
    have HOvx := Lib.hid (HOvx.out.upd0 hU)
    have HKvx := Lib.hid (hU.heap HKvx.out (by simp))
    have HOvy := Lib.hid (HOvy.out.upd0 hU)
    have HKvy := Lib.hid (hU.heap HKvy.out (by simp))
    have HU := Lib.hid (HU.out.trans hU)
    clear hts hM hU
    go_wp2_with (fail)
    refine (get_ _ w1.heap.size bb bm 2 _ D6 HBG.out 1 (wf_small (by decide) (by decide)) _ HF1.out).mono ?_
    rintro e w14 ⟨vz, rfl, hO, hU⟩
    have hO : OwnB w14 w13.heap.size vz body := hO
    have HRvz : Hid (∀ k, vz.ownBlock = some k → w13.heap.size ≤ k ∧ k < w14.heap.size) := hO.lt
    have HMw13w14 : Hid (w13.heap.size ≤ w14.heap.size) := hU.size
    obtain ⟨vzA, vzc, ev⟩ := hO.isSlice
    rw [HN.out] at ev
    have hvo : vz.oneCell' = true := by rw [ev]; rfl
    have HEvz := Lib.hid ev
    clear ev
    have HMI := Lib.hid (HMI.out.upd0 hU)
    have HBG := Lib.hid (HBG.out.upd0 hU)
    have HOvx := Lib.hid (HOvx.out.upd0 hU)
    have HKvx := Lib.hid (hU.heap HKvx.out (by simp))
    have HOvy := Lib.hid (HOvy.out.upd0 hU)
    have HKvy := Lib.hid (hU.heap HKvy.out (by simp))
    have HXlv := Lib.hid (hU.heap HXlv.out (by simp))
    have HOt0 := Lib.hid (HOt0.out.upd0 hU)
    have HOt1 := Lib.hid (HOt1.out.upd0 hU)
    have HOvz := Lib.hid hO
    have HU := Lib.hid (HU.out.trans hU)
    have hsm := size_msg 1 0 0 vz
    have hom := one_msg 1 0 0 hvo
    clear hO hU
    go_wp2_with (with_reducible refine arm_alloc (zero_msg _) ?_)
    intro b15 w15 hb kb hU hz
    change w15.heap[b15]? = some (.cells (msgC 0 0 0 (.slice none 0 0)) 32 (0, 0)) at kb
    have HBX : Hid (w14.heap.size = b15) := hb
    have HUb := Lib.hid hU
    clear hb hz hU
    go_wp2_with (with_reducible refine arm_store (by with_unfolding_all exact rfl) (by with_unfolding_all exact rfl) kb hsm (by with_unfolding_all exact rfl) hom ?_)
    intro w16 kb' hX hz
    have hU : Upd [] w14 w16 := HUb.out.trans' hX (fun k hm hl => by have := List.mem_singleton.1 hm; have := HBX.out; omega)
    have HMw14w16 : Hid (w14.heap.size ≤ w16.heap.size) := hU.size
    have HMI := Lib.hid (HMI.out.upd0 hU)
    have HBG := Lib.hid (HBG.out.upd0 hU)
    have HOvx := Lib.hid (HOvx.out.upd0 hU)
    have HKvx := Lib.hid (hU.heap HKvx.out (by simp))
    have HOvy := Lib.hid (HOvy.out.upd0 hU)
    have HKvy := Lib.hid (hU.heap HKvy.out (by simp))
    have HXlv := Lib.hid (hU.heap HXlv.out (by simp))
    have HOt0 := Lib.hid (HOt0.out.upd0 hU)
    have HOt1 := Lib.hid (HOt1.out.upd0 hU)
    have HOvz := Lib.hid (HOvz.out.upd0 hU)
    have HKvz := Lib.hid kb'
    have HU := Lib.hid (HU.out.trans hU)
    clear kb kb' hX hz hU hsm hom hvo HBX HUb
    go_wp2_with (fail)
    refine (get_ _ w1.heap.size bb bm 2 _ D6 HBG.out 2 (wf_small (by decide) (by decide)) _ HF2.out).mono ?_
    rintro e w17 ⟨vu, rfl, hO, hU⟩
    have hO : OwnB w17 w16.heap.size vu body := hO
    have HRvu : Hid (∀ k, vu.ownBlock = some k → w16.heap.size ≤ k ∧ k < w17.heap.size) := hO.lt
    have HMw16w17 : Hid (w16.heap.size ≤ w17.heap.size) := hU.size
    obtain ⟨vuA, vuc, ev⟩ := hO.isSlice
    rw [HN.out] at ev
    have hvo : vu.oneCell' = true := by rw [ev]; rfl
    have HEvu := Lib.hid ev
    clear ev
    have HMI := Lib.hid (HMI.out.upd0 hU)
    have HBG := Lib.hid (HBG.out.upd0 hU)
    have HOvx := Lib.hid (HOvx.out.upd0 hU)
    have HKvx := Lib.hid (hU.heap HKvx.out (by simp))
    have HOvy := Lib.hid (HOvy.out.upd0 hU)
    have HKvy := Lib.hid (hU.heap HKvy.out (by simp))
    have HXlv := Lib.hid (hU.heap HXlv.out (by simp))
    have HOt0 := Lib.hid (HOt0.out.upd0 hU)
    have HOt1 := Lib.hid (HOt1.out.upd0 hU)
    have HOvz := Lib.hid (HOvz.out.upd0 hU)
    have HKvz := Lib.hid (hU.heap HKvz.out (by simp))
    have HOvu := Lib.hid hO
    have HU := Lib.hid (HU.out.trans hU)
    have hsm := size_msg 2 0 0 vu
    have hom := one_msg 2 0 0 hvo
    clear hO hU
    go_wp2_with (with_reducible refine arm_alloc (zero_msg _) ?_)
    intro b17 w18 hb kb hU hz
    change w18.heap[b17]? = some (.cells (msgC 0 0 0 (.slice none 0 0)) 32 (0, 0)) at kb
    have HBX : Hid (w17.heap.size = b17) := hb
    have HUb := Lib.hid hU
    clear hb hz hU
    go_wp2_with (with_reducible refine arm_store (by with_unfolding_all exact rfl) (by with_unfolding_all exact rfl) kb hsm (by with_unfolding_all exact rfl) hom ?_)
    intro w19 kb' hX hz
    have hU : Upd [] w17 w19 := HUb.out.trans' hX (fun k hm hl => by have := List.mem_singleton.1 hm; have := HBX.out; omega)
    have HMw17w19 : Hid (w17.heap.size ≤ w19.heap.size) := hU.size
    have HMI := Lib.hid (HMI.out.upd0 hU)
    have HBG := Lib.hid (HBG.out.upd0 hU)
    have HOvx := Lib.hid (HOvx.out.upd0 hU)
    have HKvx := Lib.hid (hU.heap HKvx.out (by simp))
    have HOvy := Lib.hid (HOvy.out.upd0 hU)
    have HKvy := Lib.hid (hU.heap HKvy.out (by simp))
    have HXlv := Lib.hid (hU.heap HXlv.out (by simp))
    have HOt0 := Lib.hid (HOt0.out.upd0 hU)
    have HOt1 := Lib.hid (HOt1.out.upd0 hU)
    have HOvz := Lib.hid (HOvz.out.upd0 hU)
    have HKvz := Lib.hid (hU.heap HKvz.out (by simp))
    have HOvu := Lib.hid (HOvu.out.upd0 hU)
    have HKvu := Lib.hid kb'
    have HU := Lib.hid (HU.out.trans hU)
    clear kb kb' hX hz hU hsm hom hvo HBX HUb
    go_wp2_with (fail)
    refine (list_ _ w1.heap.size bb bm 2 _ D6 HBG.out (by decide)).mono ?_
    rintro e w20 ⟨mv, tz, rfl, hts, hM, hU⟩
    have htl : tz.length = 2 := by
      have := congrArg List.length hts
      simpa using this
    obtain ⟨u0, u1, rfl⟩ : ∃ x y, tz = [x, y] := by
      match tz, htl with
      | [x, y], _ => exact ⟨x, y, rfl⟩
    have HCmv : Hid (u0.to = 0 ∧ u0.b = body ∧ u1.b = body) := by
      simp only [List.map_cons, List.map_nil, Ent.core, List.cons.injEq, Prod.mk.injEq, and_true] at hts
      exact ⟨hts.1.2.2.1, hts.1.2.2.2, hts.2.2.2.2⟩
    have HRLmv : Hid (∀ k, footM mv [u0, u1] k → w19.heap.size ≤ k ∧ k < w20.heap.size) := hM.lt
    obtain ⟨gm, mvc, curmv, ev, hgB, hgc, hg1, hg2, hg3, hg4⟩ := OwnA.at hM.row (by simp)
    have HXmv : Hid (w20.heap[gm]? = some (.cells curmv 32 (0, 0))) := hgc
    have HYmv : Hid (w19.heap.size ≤ gm ∧ 2 ≤ mvc ∧ mvc ≤ maxLen ∧ curmv.size = mvc * 4 ∧ curmv.toList.take 8 = [u0, u1].flatMap fun t => t.cells.toList) := ⟨hgB, hg1, hg2, hg3, by simpa using hg4⟩
    rw [List.length_map] at ev
    change mv = .slice (some ⟨gm, 0, none⟩) 2 mvc at ev
    subst ev
    have HTmv : Hid (OwnB w20 w19.heap.size u0.v body ∧ OwnB w20 w19.heap.size u1.v body ∧ ∀ k, u0.v.ownBlock = some k → u1.v.ownBlock ≠ some k) := by
      have h1 := hM.bodies u0 (by simp)
      have h2 := hM.bodies u1 (by simp)
      rw [HCmv.out.2.1] at h1
      rw [HCmv.out.2.2] at h2
      exact ⟨h1, h2, (List.pairwise_cons.1 hM.apart).1 u1 (by simp)⟩
    have HOu0 := Lib.hid HTmv.out.1
    have HOu1 := Lib.hid HTmv.out.2.1
    have HMw19w20 : Hid (w19.heap.size ≤ w20.heap.size) := hU.size
    clear htl hgB hgc hg1 hg2 hg3 hg4
    have HMI := Lib.hid (HMI.out.upd0 hU)
    have HBG := Lib.hid (HBG.out.upd0 hU)
    have HOvx := Lib.hid (HOvx.out.upd0 hU)
    have HKvx := Lib.hid (hU.heap HKvx.out (by simp))
    have HOvy := Lib.hid (HOvy.out.upd0 hU)
    have HKvy := Lib.hid (hU.heap HKvy.out (by simp))
    have HXlv := Lib.hid (hU.heap HXlv.out (by simp))
    have HOt0 := Lib.hid (HOt0.out.upd0 hU)
    have HOt1 := Lib.hid (HOt1.out.upd0 hU)
    have HOvz := Lib.hid (HOvz.out.upd0 hU)
    have HKvz := Lib.hid (hU.heap HKvz.out (by simp))
    have HOvu := Lib.hid (HOvu.out.upd0 hU)
    have HKvu := Lib.hid (hU.heap HKvu.out (by simp))
    have HU := Lib.hid (HU.out.trans hU)
    clear hts hM hU
    have HCb10 : Hid (∀ W, Upd [] w20 W → W.cell? ⟨b10, 3, none⟩ = some vx) := fun W hW => by rw [cell_of_row _ _ _ _ _ _ (hW.heap HKvx.out (by simp))]; rfl
    have HCb12 : Hid (∀ W, Upd [] w20 W → W.cell? ⟨b12, 3, none⟩ = some vy) := fun W hW => by rw [cell_of_row _ _ _ _ _ _ (hW.heap HKvy.out (by simp))]; rfl
    have HCb15 : Hid (∀ W, Upd [] w20 W → W.cell? ⟨b15, 3, none⟩ = some vz) := fun W hW => by rw [cell_of_row _ _ _ _ _ _ (hW.heap HKvz.out (by simp))]; rfl
    have HCb17 : Hid (∀ W, Upd [] w20 W → W.cell? ⟨b17, 3, none⟩ = some vu) := fun W hW => by rw [cell_of_row _ _ _ _ _ _ (hW.heap HKvu.out (by simp))]; rfl
    have hcel : ∀ {g : Nat} {cu : Array Value} {a b : Ent}, w20.heap[g]? = some (.cells cu 32 (0, 0)) → cu.toList.take 8 = [a, b].flatMap (fun t => t.cells.toList) → ∀ (i : Nat) (x : Value), i < 8 → ([a, b].flatMap fun t => t.cells.toList)[i]? = some x → ∀ W, Upd [] w20 W → W.cell? ⟨g, i, none⟩ = some x := fun {g cu a b} h1 h2 i x hi hx W hW => by
      rw [cell_of_row _ _ _ _ _ _ (hW.heap h1 (by simp)), ← Array.getElem?_toList]
      rw [← h2, List.getElem?_take, if_pos hi] at hx
      exact hx
    have HCl0 := Lib.hid (hcel HXlv.out HYlv.out.2.2.2.2 3 t0.v (by decide) rfl)
    have HCl1 := Lib.hid (hcel HXlv.out HYlv.out.2.2.2.2 7 t1.v (by decide) rfl)
    have HCm0 := Lib.hid (hcel HXmv.out HYmv.out.2.2.2.2 3 u0.v (by decide) rfl)
    have HCm1 := Lib.hid (hcel HXmv.out HYmv.out.2.2.2.2 7 u1.v (by decide) rfl)
    have HCmt := Lib.hid (hcel HXmv.out HYmv.out.2.2.2.2 2 (.int .i64 u0.to) (by decide) rfl)
    have HXm0 := HXmv
    clear hcel
    obtain ⟨ib, hib, hibz, hibs⟩ := info_bytes
    have hcl : ∀ v ∈ [(Value.slice MA N mc), vx, vy, t0.v, t1.v, vz, vu, u0.v, u1.v], v.cells = #[v] := by
      have sl : ∀ {w B v l}, OwnB w B v l → v.cells = #[v] := fun h => by obtain ⟨a, c, e⟩ := h.isSlice; rw [e]; rfl
      intro v hv
      simp only [List.mem_cons, List.not_mem_nil, or_false] at hv
      rcases hv with rfl | rfl | rfl | rfl | rfl | rfl | rfl | rfl | rfl
      · exact sl HMI.out
      · exact sl HOvx.out
      · exact sl HOvy.out
      · exact sl HOt0.out
      · exact sl HOt1.out
      · exact sl HOvz.out
      · exact sl HOvu.out
      · exact sl HOu0.out
      · exact sl HOu1.out
    have hlc2 : 2 ≤ lvc := HYlv.out.2.1
    go_upto_region 20 with (fail)
    go_simp
    refine wp_region_ordT (.take 0 (.take 1 (.take 2 (.take 3 (.take 4 (.take 5 (.take 6 (.take 7 (.take 8 (.take 9 (.take 10 (.take 11 (.take 12 (.take 13 (.take 14 (.take 15 (.take 16 (.take 17 (.take 18 (.take 19 (.take 20 (.take 21 (.take 22 (.take 23 (.take 24 (.step 25 (.step 26 .none .none) .none)))))))))))))))))))))))))) (Upd [] w20) (by kernel_rfl) (by kernel_rfl) (Upd.refl _ _).drew ?_
    refine ordQ_take _ (.slice MA N mc) rfl (by kernel_rfl) (yields_move (by kernel_rfl)) ?_
    refine ordQ_take _ (.pointer (some ⟨b10, 3, none⟩)) rfl (by kernel_rfl) (fun w _ => by kernel_rfl) ?_
    refine ordQ_take _ vx rfl (by kernel_rfl) (yields_cell (p := ⟨b10, 3, none⟩) (by kernel_rfl) HCb10.out Try.underlying27 rfl) ?_
    refine ordQ_take _ (.pointer (some ⟨b12, 3, none⟩)) rfl (by kernel_rfl) (fun w _ => by kernel_rfl) ?_
    refine ordQ_take _ vy rfl (by kernel_rfl) (yields_cell (p := ⟨b12, 3, none⟩) (by kernel_rfl) HCb12.out Try.underlying27 rfl) ?_
    refine ordQ_take _ (.slice (some ⟨gl, 0, none⟩) 2 lvc) rfl (by kernel_rfl) (yields_move (by kernel_rfl)) ?_
    refine ordQ_take _ (.pointer (some ⟨gl, 0, none⟩)) rfl (by kernel_rfl) (yields_index Try.underlying33 elem_msgs size_msg4 (g := gl) (i := 0) (c := lvc) (o := 0) (n := 2) (by kernel_rfl) (by kernel_rfl) rfl (by decide) rfl) ?_
    refine ordQ_take _ (.pointer (some ⟨gl, 3, none⟩)) rfl (by kernel_rfl) (fun w _ => by kernel_rfl) ?_
    refine ordQ_take _ t0.v rfl (by kernel_rfl) (yields_cell (p := ⟨gl, 3, none⟩) (by kernel_rfl) HCl0.out Try.underlying27 rfl) ?_
    refine ordQ_take _ (.slice (some ⟨gl, 0, none⟩) 2 lvc) rfl (by kernel_rfl) (yields_move (by kernel_rfl)) ?_
    refine ordQ_take _ (.pointer (some ⟨gl, 4, none⟩)) rfl (by kernel_rfl) (yields_index Try.underlying33 elem_msgs size_msg4 (g := gl) (i := 1) (c := lvc) (o := 0) (n := 2) (by kernel_rfl) (by kernel_rfl) rfl (by decide) rfl) ?_
    refine ordQ_take _ (.pointer (some ⟨gl, 7, none⟩)) rfl (by kernel_rfl) (fun w _ => by kernel_rfl) ?_
    refine ordQ_take _ t1.v rfl (by kernel_rfl) (yields_cell (p := ⟨gl, 7, none⟩) (by kernel_rfl) HCl1.out Try.underlying27 rfl) ?_
    refine ordQ_take _ (.pointer (some ⟨b15, 3, none⟩)) rfl (by kernel_rfl) (fun w _ => by kernel_rfl) ?_
    refine ordQ_take _ vz rfl (by kernel_rfl) (yields_cell (p := ⟨b15, 3, none⟩) (by kernel_rfl) HCb15.out Try.underlying27 rfl) ?_
    refine ordQ_take _ (.pointer (some ⟨b17, 3, none⟩)) rfl (by kernel_rfl) (fun w _ => by kernel_rfl) ?_
    refine ordQ_take _ vu rfl (by kernel_rfl) (yields_cell (p := ⟨b17, 3, none⟩) (by kernel_rfl) HCb17.out Try.underlying27 rfl) ?_
    refine ordQ_take _ (.slice (some ⟨gm, 0, none⟩) 2 mvc) rfl (by kernel_rfl) (yields_move (by kernel_rfl)) ?_
    refine ordQ_take _ (.pointer (some ⟨gm, 0, none⟩)) rfl (by kernel_rfl) (yields_index Try.underlying33 elem_msgs size_msg4 (g := gm) (i := 0) (c := mvc) (o := 0) (n := 2) (by kernel_rfl) (by kernel_rfl) rfl (by decide) rfl) ?_
    refine ordQ_take _ (.pointer (some ⟨gm, 3, none⟩)) rfl (by kernel_rfl) (fun w _ => by kernel_rfl) ?_
    refine ordQ_take _ u0.v rfl (by kernel_rfl) (yields_cell (p := ⟨gm, 3, none⟩) (by kernel_rfl) HCm0.out Try.underlying27 rfl) ?_
    refine ordQ_take _ (.slice (some ⟨gm, 0, none⟩) 2 mvc) rfl (by kernel_rfl) (yields_move (by kernel_rfl)) ?_
    refine ordQ_take _ (.pointer (some ⟨gm, 4, none⟩)) rfl (by kernel_rfl) (yields_index Try.underlying33 elem_msgs size_msg4 (g := gm) (i := 1) (c := mvc) (o := 0) (n := 2) (by kernel_rfl) (by kernel_rfl) rfl (by decide) rfl) ?_
    refine ordQ_take _ (.pointer (some ⟨gm, 7, none⟩)) rfl (by kernel_rfl) (fun w _ => by kernel_rfl) ?_
    refine ordQ_take _ u1.v rfl (by kernel_rfl) (yields_cell (p := ⟨gm, 7, none⟩) (by kernel_rfl) HCm1.out Try.underlying27 rfl) ?_
    refine ordQ_step _ (by simp only [List.getElem?_toArray, List.getElem?_cons_succ, List.getElem?_cons_zero]; rfl) ?_ ordQ_none
    with_reducible refine arm_bs9 Try.underlying22 hib hibs hibz rfl (by kernel_rfl) (by kernel_rfl) (by kernel_rfl) (by kernel_rfl) (by kernel_rfl) (by kernel_rfl) (by kernel_rfl) (by kernel_rfl) (by kernel_rfl) hcl ?_
    intro ga wT hga hkA hUT
    have hUT : Upd [] w20 wT := ((Upd.refl [] w20).drew).trans hUT
    have HMT : Hid (w20.heap.size ≤ wT.heap.size) := hUT.size
    have HKA := Lib.hid hkA
    have HUT := Lib.hid hUT
    have HMI := Lib.hid (HMI.out.upd0 hUT)
    have HBG := Lib.hid (HBG.out.upd0 hUT)
    have HOvx := Lib.hid (HOvx.out.upd0 hUT)
    have HKvx := Lib.hid (hUT.heap HKvx.out (by simp))
    have HOvy := Lib.hid (HOvy.out.upd0 hUT)
    have HKvy := Lib.hid (hUT.heap HKvy.out (by simp))
    have HXlv := Lib.hid (hUT.heap HXlv.out (by simp))
    have HOt0 := Lib.hid (HOt0.out.upd0 hUT)
    have HOt1 := Lib.hid (HOt1.out.upd0 hUT)
    have HOvz := Lib.hid (HOvz.out.upd0 hUT)
    have HKvz := Lib.hid (hUT.heap HKvz.out (by simp))
    have HOvu := Lib.hid (HOvu.out.upd0 hUT)
    have HKvu := Lib.hid (hUT.heap HKvu.out (by simp))
    have HXmv := Lib.hid (hUT.heap HXmv.out (by simp))
    have HOu0 := Lib.hid (HOu0.out.upd0 hUT)
    have HOu1 := Lib.hid (HOu1.out.upd0 hUT)
    have HU := Lib.hid (HU.out.trans hUT)
    have hpw : [(Value.slice MA N mc), vx, vy, t0.v, t1.v, vz, vu, u0.v, u1.v].Pairwise (fun a b => ∀ k, a.ownBlock = some k → b.ownBlock ≠ some k) := by
      have m0 := HM12.out
      have m1 := HM23.out
      have m2 := HM34.out
      have m3 := HM45.out
      have m4 := HM56.out
      have m5 := HMw6w7.out
      have m6 := HMw7w9.out
      have m7 := HMw9w10.out
      have m8 := HMw10w12.out
      have m9 := HMw12w13.out
      have m10 := HMw13w14.out
      have m11 := HMw14w16.out
      have m12 := HMw16w17.out
      have m13 := HMw17w19.out
      have m14 := HMw19w20.out
      refine .cons ?_ (.cons ?_ (.cons ?_ (.cons ?_ (.cons ?_ (.cons ?_ (.cons ?_ (.cons ?_ (List.pairwise_singleton _ _))))))))
      · intro b hb k h1 h2
        simp only [List.mem_cons, List.not_mem_nil, or_false] at hb
        rcases hb with rfl | rfl | rfl | rfl | rfl | rfl | rfl | rfl
        · have r1 := HRm.out k h1; have r2 := HRvx.out k h2; omega
        · have r1 := HRm.out k h1; have r2 := HRvy.out k h2; omega
        · have r1 := HRm.out k h1; have r2 := HRLlv.out k (.inr ⟨t0, by simp, h2⟩); omega
        · have r1 := HRm.out k h1; have r2 := HRLlv.out k (.inr ⟨t1, by simp, h2⟩); omega
        · have r1 := HRm.out k h1; have r2 := HRvz.out k h2; omega
        · have r1 := HRm.out k h1; have r2 := HRvu.out k h2; omega
        · have r1 := HRm.out k h1; have r2 := HRLmv.out k (.inr ⟨u0, by simp, h2⟩); omega
        · have r1 := HRm.out k h1; have r2 := HRLmv.out k (.inr ⟨u1, by simp, h2⟩); omega
      · intro b hb k h1 h2
        simp only [List.mem_cons, List.not_mem_nil, or_false] at hb
        rcases hb with rfl | rfl | rfl | rfl | rfl | rfl | rfl
        · have r1 := HRvx.out k h1; have r2 := HRvy.out k h2; omega
        · have r1 := HRvx.out k h1; have r2 := HRLlv.out k (.inr ⟨t0, by simp, h2⟩); omega
        · have r1 := HRvx.out k h1; have r2 := HRLlv.out k (.inr ⟨t1, by simp, h2⟩); omega
        · have r1 := HRvx.out k h1; have r2 := HRvz.out k h2; omega
        · have r1 := HRvx.out k h1; have r2 := HRvu.out k h2; omega
        · have r1 := HRvx.out k h1; have r2 := HRLmv.out k (.inr ⟨u0, by simp, h2⟩); omega
        · have r1 := HRvx.out k h1; have r2 := HRLmv.out k (.inr ⟨u1, by simp, h2⟩); omega
      · intro b hb k h1 h2
        simp only [List.mem_cons, List.not_mem_nil, or_false] at hb
        rcases hb with rfl | rfl | rfl | rfl | rfl | rfl
        · have r1 := HRvy.out k h1; have r2 := HRLlv.out k (.inr ⟨t0, by simp, h2⟩); omega
        · have r1 := HRvy.out k h1; have r2 := HRLlv.out k (.inr ⟨t1, by simp, h2⟩); omega
        · have r1 := HRvy.out k h1; have r2 := HRvz.out k h2; omega
        · have r1 := HRvy.out k h1; have r2 := HRvu.out k h2; omega
        · have r1 := HRvy.out k h1; have r2 := HRLmv.out k (.inr ⟨u0, by simp, h2⟩); omega
        · have r1 := HRvy.out k h1; have r2 := HRLmv.out k (.inr ⟨u1, by simp, h2⟩); omega
      · intro b hb k h1 h2
        simp only [List.mem_cons, List.not_mem_nil, or_false] at hb
        rcases hb with rfl | rfl | rfl | rfl | rfl
        · exact HTlv.out.2.2 k h1 h2
        · have r1 := HRLlv.out k (.inr ⟨t0, by simp, h1⟩); have r2 := HRvz.out k h2; omega
        · have r1 := HRLlv.out k (.inr ⟨t0, by simp, h1⟩); have r2 := HRvu.out k h2; omega
        · have r1 := HRLlv.out k (.inr ⟨t0, by simp, h1⟩); have r2 := HRLmv.out k (.inr ⟨u0, by simp, h2⟩); omega
        · have r1 := HRLlv.out k (.inr ⟨t0, by simp, h1⟩); have r2 := HRLmv.out k (.inr ⟨u1, by simp, h2⟩); omega
      · intro b hb k h1 h2
        simp only [List.mem_cons, List.not_mem_nil, or_false] at hb
        rcases hb with rfl | rfl | rfl | rfl
        · have r1 := HRLlv.out k (.inr ⟨t1, by simp, h1⟩); have r2 := HRvz.out k h2; omega
        · have r1 := HRLlv.out k (.inr ⟨t1, by simp, h1⟩); have r2 := HRvu.out k h2; omega
        · have r1 := HRLlv.out k (.inr ⟨t1, by simp, h1⟩); have r2 := HRLmv.out k (.inr ⟨u0, by simp, h2⟩); omega
        · have r1 := HRLlv.out k (.inr ⟨t1, by simp, h1⟩); have r2 := HRLmv.out k (.inr ⟨u1, by simp, h2⟩); omega
      · intro b hb k h1 h2
        simp only [List.mem_cons, List.not_mem_nil, or_false] at hb
        rcases hb with rfl | rfl | rfl
        · have r1 := HRvz.out k h1; have r2 := HRvu.out k h2; omega
        · have r1 := HRvz.out k h1; have r2 := HRLmv.out k (.inr ⟨u0, by simp, h2⟩); omega
        · have r1 := HRvz.out k h1; have r2 := HRLmv.out k (.inr ⟨u1, by simp, h2⟩); omega
      · intro b hb k h1 h2
        simp only [List.mem_cons, List.not_mem_nil, or_false] at hb
        rcases hb with rfl | rfl
        · have r1 := HRvu.out k h1; have r2 := HRLmv.out k (.inr ⟨u0, by simp, h2⟩); omega
        · have r1 := HRvu.out k h1; have r2 := HRLmv.out k (.inr ⟨u1, by simp, h2⟩); omega
      · intro b hb k h1 h2
        simp only [List.mem_cons, List.not_mem_nil, or_false] at hb
        subst hb
        exact HTmv.out.2.2 k h1 h2
    have hall : ∀ p ∈ [(Value.slice MA N mc), vx, vy, t0.v, t1.v, vz, vu, u0.v, u1.v], OwnB wT w.heap.size p body ∧ ∀ k, p.ownBlock = some k → k < w4.heap.size ∨ w6.heap.size ≤ k := by
      have m0 := HM12.out
      have m1 := HM23.out
      have m2 := HM34.out
      have m3 := HM45.out
      have m4 := HM56.out
      have m5 := HMw6w7.out
      have m6 := HMw7w9.out
      have m7 := HMw9w10.out
      have m8 := HMw10w12.out
      have m9 := HMw12w13.out
      have m10 := HMw13w14.out
      have m11 := HMw14w16.out
      have m12 := HMw16w17.out
      have m13 := HMw17w19.out
      have m14 := HMw19w20.out
      have m98 := HRW.out
      intro p hp
      simp only [List.mem_cons, List.not_mem_nil, or_false] at hp
      rcases hp with rfl | rfl | rfl | rfl | rfl | rfl | rfl | rfl | rfl
      · exact ⟨HMI.out.mono (fun k hk => by have r1 := HRm.out k hk; omega), fun k hk => by have r1 := HRm.out k hk; omega⟩
      · exact ⟨HOvx.out.mono (fun k hk => by have r1 := HRvx.out k hk; omega), fun k hk => by have r1 := HRvx.out k hk; omega⟩
      · exact ⟨HOvy.out.mono (fun k hk => by have r1 := HRvy.out k hk; omega), fun k hk => by have r1 := HRvy.out k hk; omega⟩
      · exact ⟨HOt0.out.mono (fun k hk => by have r1 := HRLlv.out k (.inr ⟨t0, by simp, hk⟩); omega), fun k hk => by have r1 := HRLlv.out k (.inr ⟨t0, by simp, hk⟩); omega⟩
      · exact ⟨HOt1.out.mono (fun k hk => by have r1 := HRLlv.out k (.inr ⟨t1, by simp, hk⟩); omega), fun k hk => by have r1 := HRLlv.out k (.inr ⟨t1, by simp, hk⟩); omega⟩
      · exact ⟨HOvz.out.mono (fun k hk => by have r1 := HRvz.out k hk; omega), fun k hk => by have r1 := HRvz.out k hk; omega⟩
      · exact ⟨HOvu.out.mono (fun k hk => by have r1 := HRvu.out k hk; omega), fun k hk => by have r1 := HRvu.out k hk; omega⟩
      · exact ⟨HOu0.out.mono (fun k hk => by have r1 := HRLmv.out k (.inr ⟨u0, by simp, hk⟩); omega), fun k hk => by have r1 := HRLmv.out k (.inr ⟨u0, by simp, hk⟩); omega⟩
      · exact ⟨HOu1.out.mono (fun k hk => by have r1 := HRLmv.out k (.inr ⟨u1, by simp, hk⟩); omega), fun k hk => by have r1 := HRLmv.out k (.inr ⟨u1, by simp, hk⟩); omega⟩
    obtain ⟨ps, hps⟩ : ∃ q, [(Value.slice MA N mc), vx, vy, t0.v, t1.v, vz, vu, u0.v, u1.v] = q := ⟨_, rfl⟩
    have hpa : #[(Value.slice MA N mc), vx, vy, t0.v, t1.v, vz, vu, u0.v, u1.v] = ps.toArray := by rw [← hps]
    rw [hps] at hpw hall
    have HPL : Hid (ps.length = 9) := by show ps.length = 9; rw [← hps]; rfl
    have HFA : Hid (Fam wT w.heap.size ps (fun _ => body)) := by
      refine ⟨fun i hi => (hall _ (List.getElem_mem hi)).1, fun i j hi hj hij k h1 h2 => ?_⟩
      have hp := List.pairwise_iff_getElem.1 hpw
      rcases Nat.lt_trichotomy i j with h | h | h
      · exact hp i j hi hj h k h1 h2
      · exact hij h
      · exact hp j i hj hi h k h2 h1
    have HAV : Hid (∀ k ∈ SF ps, k < w4.heap.size ∨ w6.heap.size ≤ k) := fun k hk => by
      obtain ⟨i, hi, hk⟩ := mem_SF.1 hk
      exact (hall _ (List.getElem_mem hi)).2 k hk
    have HD1 : Hid (∀ k, v1.ownBlock = some k → k ∉ SF ps) := fun k hk hm => by have h1 := HRa.out k hk; have h2 := HAV.out k hm; have h3 := HM56.out; omega
    have HD2 : Hid (∀ k, v2.ownBlock = some k → k ∉ SF ps) := fun k hk hm => by have h1 := HRb.out k hk; have h2 := HAV.out k hm; have h3 := HM45.out; omega
    have HD12 : Hid (∀ k, v2.ownBlock = some k → v1.ownBlock ≠ some k) := fun k hk hk2 => by have h1 := HRa.out k hk2; have h2 := HRb.out k hk; omega
    rw [hpa] at HKA
    have HGLM : Hid (gl ≠ gm) := by
      have m0 := HM12.out
      have m1 := HM23.out
      have m2 := HM34.out
      have m3 := HM45.out
      have m4 := HM56.out
      have m5 := HMw6w7.out
      have m6 := HMw7w9.out
      have m7 := HMw9w10.out
      have m8 := HMw10w12.out
      have m9 := HMw12w13.out
      have m10 := HMw13w14.out
      have m11 := HMw14w16.out
      have m12 := HMw16w17.out
      have m13 := HMw17w19.out
      have m14 := HMw19w20.out
      have h1 := HRLlv.out gl (.inl rfl)
      have h2 := HRLmv.out gm (.inl rfl)
      show gl ≠ gm
      omega
    have HWL : Hid (w.heap.size ≤ gl) := by
      have m0 := HM12.out
      have m1 := HM23.out
      have m2 := HM34.out
      have m3 := HM45.out
      have m4 := HM56.out
      have m5 := HMw6w7.out
      have m6 := HMw7w9.out
      have m7 := HMw9w10.out
      have m8 := HMw10w12.out
      have m9 := HMw12w13.out
      have m10 := HMw13w14.out
      have m11 := HMw14w16.out
      have m12 := HMw16w17.out
      have m13 := HMw17w19.out
      have m14 := HMw19w20.out
      have m98 := HRW.out
      have h1 := HRLlv.out gl (.inl rfl)
      show w.heap.size ≤ gl
      omega
    clear hpw hall hps hpa hkA hga hib hibs hibz hcl
    go_wp2_with (fail)
    refine ordQ_more HUT.out ?_
    refine ordQ_step _ (by simp only [List.getElem?_toArray, List.getElem?_cons_succ, List.getElem?_cons_zero]; rfl) ?_ ordQ_none
    go_wp2_with (fail)
    refine ordQ_more HUT.out (ordQ_end ?_)
    have hcs : 2 < curlv.size := by have := HYlv.out; omega
    have hxl := HXlv.out
    clear hUT
    go_wp2_with (with_reducible refine arm_store_at (v := .int .i64 71) (by with_unfolding_all exact rfl) (by with_unfolding_all exact rfl) hxl hcs (by with_unfolding_all exact rfl) size_int1 (by with_unfolding_all exact rfl) ?_)
    intro wU hkl hXU hzU
    have HOL : Hid (OwnA wU w.heap.size 32 4 (.slice (some ⟨gl, 0, none⟩) 2 lvc) [[.int .i64 t0.id, .int .i64 t0.fr, .int .i64 71, t0.v], t1.cells.toList]) := by
      refine ⟨fun x hx => ?_, ?_, .inr ⟨gl, lvc, _, rfl, HWL.out, hkl, HYlv.out.2.1, HYlv.out.2.2.1, by rw [Array.size_setIfInBounds]; exact HYlv.out.2.2.2.1, ?_⟩⟩
      · simp only [List.mem_cons, List.not_mem_nil, or_false] at hx
        rcases hx with rfl | rfl <;> rfl
      · rfl
      · rw [Array.toList_setIfInBounds, List.take_set]
        have := HYlv.out.2.2.2.2
        show (curlv.toList.take 8).set 2 _ = _
        rw [this]
        rfl
    have HGT : Hid (∀ {k : Nat} {C : Array Value} {T : TypeId} {fr' : Nat × Nat}, wT.heap[k]? = some (.cells C T fr') → T ≠ 32 → k ∉ [gl]) := fun {k C T fr'} h1 h2 hm => heap_ne h1 hxl h2 (List.mem_singleton.1 hm)
    have HFA := Lib.hid (HFA.out.upd hXU (fun k hk => by obtain ⟨C, fr', h1⟩ := HFA.out.type k hk; exact HGT.out h1 (by decide)))
    have HBG := Lib.hid (HBG.out.off hXU (fun k hk => by rw [List.mem_singleton.1 hk]; exact ⟨_, _, _, hxl, by decide, by decide⟩))
    have HKA := Lib.hid (hXU.heap HKA.out (HGT.out HKA.out (by decide)))
    have HXmv := Lib.hid (hXU.heap HXmv.out (fun hm => HGLM.out (List.mem_singleton.1 hm).symm))
    have HU : Hid (Upd [] w wU) := HU.out.trans' hXU (fun k hm hl => by have := List.mem_singleton.1 hm; have := HWL.out; omega)
    have HGL : Hid (∃ C fr', wU.heap[gl]? = some (.cells C 32 fr')) := ⟨_, _, hkl⟩
    have hbt := built_msgT
    clear hXU hzU hkl hxl hcs hlc2
    go_wp2_with (fail)
    go_loopw [14, 21] (fun gv qv wr => ∃ (j : Nat) (rs : List Cs), qv = .int .i64 j ∧ j ≤ 64 ∧ OwnA wr w.heap.size 32 4 gv rs ∧ rs.length = 2 + j ∧ (∀ k, gv.ownBlock = some k → k = gl ∨ wU.heap.size ≤ k) ∧ Upd [gl] wU wr) (fun _ qv _ => 64 - (intOf qv).toNat)
    case atStart => exact ⟨0, _, rfl, Nat.zero_le _, HOL.out, rfl, fun k hk => .inl (by simp [Value.ownBlock] at hk; exact hk.symm), Upd.refl _ _⟩
    case round =>
      obtain ⟨j, rs, rfl, hj, hO, hrl, hg, hU⟩ := hrel
      have HO := Lib.hid hO
      have HG := Lib.hid hg
      have HUr := Lib.hid hU
      have HRSL := Lib.hid hrl
      clear hO hg hU
      by_cases hlt : j < 64
      · have hji : (j : Int) < 64 := by omega
        clear hrl
        go_wp2_with (first
          | (with_reducible refine arm_build_1 (by with_unfolding_all exact rfl) hbt ?_)
          | (with_reducible refine bsA eltM (show (msgC 0 0 72 (.slice none 0 0)).size = 4 from rfl) (by with_unfolding_all exact rfl) ?_))
        intro g3 w3' hg3 k3 hU3
        have hO3 := HO.out.upd0 hU3
        have hB3 : w.heap.size ≤ w3'.heap.size := by have := HU.out.size; have := HUr.out.size; have := hU3.size; omega
        have ha3 : ∀ u ∈ (msgC 0 0 72 (.slice none 0 0)).toList, u.oneCell' = true := one_msgL 0 0 72 rfl
        have hl3 : rs.length ≤ 1000000 := by rw [HRSL.out]; omega
        change w3'.heap[g3]? = some (.cells (msgC 0 0 72 (.slice none 0 0)).toList.toArray 32 (0, 0)) at k3
        have HU3 := Lib.hid hU3
        clear hg3 hU3
        go_wp2_with (with_reducible refine appendA eltM (by with_unfolding_all exact rfl) (by with_unfolding_all exact rfl) hO3 k3 (by with_unfolding_all exact rfl) ha3 hl3 (by decide) hB3 ?_)
        intro v4' w4' hO4 hU4 hb4
        have HO4 := Lib.hid hO4
        have HG4 : Hid (∀ k, v4'.ownBlock = some k → k = gl ∨ wU.heap.size ≤ k) := fun k hk => by
          rcases hb4 with e | e
          · exact HG.out k (by rw [← e]; exact hk)
          · rw [e] at hk; injection hk with hk; right; have := HUr.out.size; have := HU3.out.size; omega
        have HU4 : Hid (Upd [gl] wU w4') := (HUr.out.trans0 HU3.out).trans' hU4 (fun k hm hl => by
          rcases HG.out k (by simpa using hm) with h | h
          · simp [h]
          · omega)
        clear hO4 hb4 hU4 hO3 hB3 ha3 hl3 k3
        go_wp2_with (fail)
        go_roundw
        case rel => exact ⟨j + 1, _, by go_num, by omega, HO4.out, by rw [List.length_append, HRSL.out]; rfl, HG4.out, HU4.out⟩
        case measure => simp [intOf]; omega
      · have hj64 : rs.length = 66 := by omega
        have hji : ¬ (j : Int) < 64 := by omega
        obtain ⟨GA, gc, eg⟩ := OwnA.isSlice HO.out
        rw [hj64] at eg
        subst eg
        clear hj64
        have HGU : Hid (∀ {k : Nat} {C : Array Value} {T : TypeId} {fr' : Nat × Nat}, wU.heap[k]? = some (.cells C T fr') → T ≠ 32 → k ∉ [gl]) := fun {k C T fr'} h1 h2 hm => by
          obtain ⟨C', fr'', h3⟩ := HGL.out
          exact heap_ne h1 h3 h2 (List.mem_singleton.1 hm)
        have HFA := Lib.hid (HFA.out.upd HUr.out (fun k hk => by obtain ⟨C, fr', h1⟩ := HFA.out.type k hk; exact HGU.out h1 (by decide)))
        have HBG := Lib.hid (HBG.out.off HUr.out (fun k hk => by rw [List.mem_singleton.1 hk]; obtain ⟨C', fr'', h3⟩ := HGL.out; exact ⟨_, _, _, h3, by decide, by decide⟩))
        have HKA := Lib.hid (HUr.out.heap HKA.out (HGU.out HKA.out (by decide)))
        have hxm := HUr.out.heap HXmv.out (fun hm => HGLM.out (List.mem_singleton.1 hm).symm)
        have HU : Hid (Upd [] w wr) := HU.out.trans' HUr.out (fun k hm hl => by have := List.mem_singleton.1 hm; have := HWL.out; omega)
        have cmt : wr.cell? ⟨gm, 2, none⟩ = some (.int .i64 0) := by
          have h1 := HCmt.out _ (Upd.refl _ _)
          rw [cell_of_row _ _ _ _ _ _ HXm0.out] at h1
          rw [cell_of_row _ _ _ _ _ _ hxm, h1, HCmv.out.1]
        clear hrl hlt hj hbt
        obtain ⟨wV, rfl⟩ : ∃ q, q = wr := ⟨_, rfl⟩
        go_wp2_with (fail)
        clear cmt hxm
        go_loopw [22] (fun iv wq => ∃ i : Nat, iv = .int .i64 i ∧ i ≤ 9 ∧ Upd [] wV wq) (fun iv _ => 9 - (intOf iv).toNat)
        case atStart => exact ⟨0, rfl, Nat.zero_le _, Upd.refl _ _⟩
        case round =>
          obtain ⟨i, rfl, hi, hUr⟩ := hrel
          have HUr := Lib.hid hUr
          have HKAr := Lib.hid (hUr.heap HKA.out (by simp))
          have HFAr := Lib.hid (HFA.out.upd0 hUr)
          clear hUr
          by_cases hlt : i < 9
          · have hli : (i : Int) < 9 := by omega
            have hit : i < ps.length := by rw [HPL.out]; exact hlt
            obtain ⟨pv, hpv⟩ : ∃ q, ps[i] = q := ⟨_, rfl⟩
            have cga : wr.cell? ⟨ga, i, none⟩ = some pv := by rw [cell_of_row _ _ _ _ _ _ HKAr.out]; simp [hit, hpv]
            have HOP : Hid (OwnB wr w.heap.size pv body) := by have := HFAr.out.own i hit; rwa [hpv] at this
            obtain ⟨PA, pc, ep⟩ := HOP.out.isSlice
            clear hpv hit ep
            go_wp2_with (fail)
            refine (same24 _ pv (.slice A N c) body body HOP.out.rd (HR.out.upd0 (HU.out.trans HUr.out)) (by rw [HN.out]; have := HL.out; omega) (by rw [HN.out]; have := HL.out; omega)).mono ?_
            rintro e wr2 ⟨rfl, hU2⟩
            have heq : (body == body) = true := by simp
            rw [heq]
            have HU2 := Lib.hid (HUr.out.trans hU2)
            clear hU2 heq cga
            go_wp2_with (fail)
            go_roundw
            case rel => exact ⟨i + 1, by go_num, by omega, HU2.out⟩
            case measure => simp [intOf]; omega
          · have hli : ¬ (i : Int) < 9 := by omega
            have HU := Lib.hid (HU.out.trans HUr.out)
            have HBG := Lib.hid (HBG.out.upd0 HUr.out)
            have HFA := HFAr
            have HKA := HKAr
            clear hi hlt
            obtain ⟨wX, rfl⟩ : ∃ q, q = wr := ⟨_, rfl⟩
            go_wp2_with (fail)
            go_loopw [23] (fun iv wq => ∃ i : Nat, iv = .int .i64 i ∧ i ≤ 9 ∧ Fam wq w.heap.size ps (fun j => if j < i then List.replicate N (BitVec.ofInt 8 ((j : Int) + 1)) else body) ∧ Upd (SF ps) wX wq) (fun iv _ => 9 - (intOf iv).toNat)
            case atStart => exact ⟨0, rfl, Nat.zero_le _, HFA.out.congr (fun i hi => by simp), Upd.refl _ _⟩
            case round =>
              obtain ⟨i, rfl, hi, hFr, hUr⟩ := hrel
              have HUr := Lib.hid hUr
              have HKAr := Lib.hid (hUr.heap HKA.out (HFA.out.ne HKA.out (by decide)))
              have HFAr := Lib.hid hFr
              clear hUr hFr
              by_cases hlt : i < 9
              · have hli : (i : Int) < 9 := by omega
                have hit : i < ps.length := by rw [HPL.out]; exact hlt
                obtain ⟨pv, hpv⟩ : ∃ q, ps[i] = q := ⟨_, rfl⟩
                have cga : wr.cell? ⟨ga, i, none⟩ = some pv := by rw [cell_of_row _ _ _ _ _ _ HKAr.out]; simp [hit, hpv]
                have HPV := Lib.hid hpv
                have HIT := Lib.hid hit
                have HOP : Hid (OwnB wr w.heap.size pv body) := by have := HFAr.out.own i hit; rw [hpv] at this; show OwnB wr w.heap.size pv body; simpa using this
                obtain ⟨PA, pc, ep⟩ := HOP.out.isSlice
                rw [HN.out] at ep
                subst ep
                clear hpv
                have HCGA := Lib.hid cga
                clear cga
                obtain ⟨wI, rfl⟩ : ∃ q, q = wr := ⟨_, rfl⟩
                have hi9 : (i : Int) + 1 ≤ 9 := by omega
                go_wp2_with (fail)
                go_loopw [24] (fun kv wx => ∃ k : Nat, kv = .int .i64 k ∧ k ≤ N ∧ OwnB wx w.heap.size (.slice PA N pc) (run24 (BitVec.ofInt 8 ((i : Int) + 1)) k body) ∧ Upd (Value.slice PA N pc).ownBlock.toList wI wx) (fun kv _ => N - (intOf kv).toNat)
                case atStart => exact ⟨0, rfl, Nat.zero_le _, HOP.out, Upd.refl _ _⟩
                case round =>
                  obtain ⟨k, rfl, hk, hOk, hUk⟩ := hrel
                  have HOk := Lib.hid hOk
                  have HUk := Lib.hid hUk
                  have HKL : Hid (k ≤ N) := hk
                  have cga : wr.cell? ⟨ga, i, none⟩ = some (.slice PA N pc) := hUk.cell HCGA.out (fun hm => by
                    have h1 := HFAr.out.ne HKAr.out (by decide)
                    exact h1 (mem_SF.2 ⟨i, HIT.out, (congrArg Value.ownBlock HPV.out).trans (by simpa using hm)⟩))
                  clear hOk hUk hk
                  by_cases hlk : k < N
                  · have hki : (k : Int) < (N : Int) := by omega
                    have hkl : k < (run24 (BitVec.ofInt 8 ((i : Int) + 1)) k body).length := by rw [run24_length _ _ _ (by rw [HN.out]; exact HKL.out), HN.out]; exact hlk
                    obtain ⟨g, cap, e, _⟩ := HOk.out.at (by omega)
                    injection e with e e1 e2
                    clear e1 e2
                    subst e
                    have hc := OwnB.cell HOk.out k hkl
                    have hf := OwnB.frozen HOk.out k hkl
                    have HS := Lib.hid (OwnB.set HOk.out k hkl (BitVec.ofInt 8 ((i : Int) + 1)))
                    rw [run24_set _ _ _ (by rw [HN.out]; exact hlk)] at HS
                    have HUS : Hid (Upd (Value.slice (some ⟨g, 0, none⟩) N pc).ownBlock.toList wI (wr.setCell ⟨g, k, none⟩ (U8 (BitVec.ofInt 8 ((i : Int) + 1))))) := HUk.out.setCell _ _ (fun _ => by simp [Value.ownBlock])
                    obtain ⟨y, hy⟩ : ∃ y, (run24 (BitVec.ofInt 8 ((i : Int) + 1)) k body)[k] = y := ⟨_, rfl⟩
                    rw [hy] at hc
                    clear hy hkl
                    go_wp2_with (fail)
                    go_roundw
                    case rel => exact ⟨k + 1, by go_num, by omega, HS.out, HUS.out⟩
                    case measure => simp [intOf]; omega
                  · have hkn : k = N := by have := HKL.out; omega
                    have HOF : Hid (OwnB wr w.heap.size (.slice PA N pc) (List.replicate N (BitVec.ofInt 8 ((i : Int) + 1)))) := by
                      have := HOk.out
                      rwa [hkn, run24_all _ _ _ HN.out] at this
                    have hki : ¬ (k : Int) < (N : Int) := by omega
                    have HFB : Hid (Fam wr w.heap.size ps (fun j => if j < i + 1 then List.replicate N (BitVec.ofInt 8 ((j : Int) + 1)) else body)) := by
                      have hu : Upd ps[i].ownBlock.toList wI wr := Eq.mpr (congrArg (fun p : Value => Upd p.ownBlock.toList wI wr) HPV.out) HUk.out
                      refine (HFAr.out.set i HIT.out hu (l := List.replicate N (BitVec.ofInt 8 ((i : Int) + 1))) (Eq.mpr (congrArg (fun p : Value => OwnB wr w.heap.size p (List.replicate N (BitVec.ofInt 8 ((i : Int) + 1)))) HPV.out) HOF.out)).congr (fun j hj => ?_)
                      by_cases e : j = i
                      · subst e; simp
                      · by_cases h2 : j < i
                        · simp [e, h2, show j < i + 1 by omega]
                        · simp [e, h2, show ¬ j < i + 1 by omega]
                    have HUB : Hid (Upd (SF ps) wX wr) := HUr.out.trans' HUk.out (fun q hm _ => mem_SF.2 ⟨i, HIT.out, (congrArg Value.ownBlock HPV.out).trans (by simpa using hm)⟩)
                    clear hkn hlk
                    go_wp2_with (fail)
                    go_roundw
                    case rel => exact ⟨i + 1, by go_num, by omega, HFB.out, HUB.out⟩
                    case measure => simp [intOf]; omega
              · have hli : ¬ (i : Int) < 9 := by omega
                have HI9 : Hid (i = 9) := by show i = 9; omega
                have HFX := Lib.hid (HFA.out.lt)
                have HU : Hid (Upd [] w wr) := HU.out.trans' HUr.out (fun k hm hl => by have := (HFX.out k hm).1; omega)
                have HBG := Lib.hid (HFA.out.bag HBG.out HUr.out (fun e he k hk hm => by
                  simp only [List.mem_cons, List.not_mem_nil, or_false] at he
                  rcases he with rfl | rfl
                  · exact HD1.out k hk hm
                  · exact HD2.out k hk hm))
                have HFA : Hid (Fam wr w.heap.size ps (fun j => List.replicate N (BitVec.ofInt 8 ((j : Int) + 1)))) := HFAr.out.congr (fun j hj => by rw [HPL.out] at hj; simp [HI9.out, hj])
                have HKA := HKAr
                clear hi hlt HFX
                obtain ⟨wY, rfl⟩ : ∃ q, q = wr := ⟨_, rfl⟩
                go_wp2_with (fail)
                go_loopw [25, 26] (fun tv jv wq => ∃ j : Nat, jv = .int .i64 j ∧ j ≤ 64 ∧ OwnB wq wY.heap.size tv (List.replicate j 100) ∧ Upd [] wY wq) (fun _ jv _ => 64 - (intOf jv).toNat)
                case atStart => exact ⟨0, rfl, Nat.zero_le _, OwnB.nil _ _, Upd.refl _ _⟩
                case round =>
                  obtain ⟨j, rfl, hj, hOq, hUq⟩ := hrel
                  have HOq := Lib.hid hOq
                  have HUq := Lib.hid hUq
                  clear hOq hUq
                  by_cases hlj : j < 64
                  · have hji : (j : Int) < 64 := by omega
                    go_wp2_with (with_reducible refine bsB (y := 100#8) (by with_unfolding_all exact rfl) ?_)
                    intro g2 w2' hg2 k2 hU2
                    have hO2 := HOq.out.upd0 hU2
                    have hR2 := rd_block k2 (by simp [maxLen])
                    have hB2 : wY.heap.size ≤ w2'.heap.size := (HUq.out.trans hU2).size
                    have hl2 : (List.replicate j (100#8)).length + [100#8].length ≤ 140737488355328 := by simp; omega
                    have HU2 := Lib.hid (HUq.out.trans hU2)
                    clear hg2 k2 hU2
                    go_wp2_with (refine append_rd rfl _ _ rfl wY.heap.size _ (List.replicate j 100) (by with_unfolding_all exact rfl) hO2 _ [100#8] (by with_unfolding_all exact rfl) hR2 hl2 hB2 ?_)
                    intro v3' w3' hO3 _ hU3 _
                    have HO3 : Hid (OwnB w3' wY.heap.size v3' (List.replicate (j + 1) 100)) := by
                      show OwnB w3' wY.heap.size v3' (List.replicate (j + 1) 100)
                      rw [List.replicate_succ']; exact hO3
                    have HU3 : Hid (Upd [] wY w3') := HU2.out.trans' hU3 (fun k hm hl => by have := (hO2.lt k (by simpa using hm)).1; omega)
                    clear hO3 hU3 hO2 hR2 hB2 hl2
                    go_wp2_with (fail)
                    go_roundw
                    case rel => exact ⟨j + 1, by go_num, by omega, HO3.out, HU3.out⟩
                    case measure => simp [intOf]; omega
                  · have hji : ¬ (j : Int) < 64 := by omega
                    have HOq : Hid (OwnB wr wY.heap.size u25 (List.replicate 64 100)) := by
                      have := HOq.out
                      rwa [show j = 64 by omega] at this
                    obtain ⟨tg, tc, et, _⟩ := HOq.out.at (by simp)
                    rw [List.length_replicate] at et
                    subst et
                    have HTY : Hid (∀ k ∈ SF ps, k < wY.heap.size) := fun k hk => (HFA.out.lt k hk).2
                    have HTG : Hid (wY.heap.size ≤ tg) := (HOq.out.lt tg rfl).1
                    have HTL := HOq
                    have HU := Lib.hid (HU.out.trans HUq.out)
                    have HBG := Lib.hid (HBG.out.upd0 HUq.out)
                    have HFA := Lib.hid (HFA.out.upd0 HUq.out)
                    have HKA := Lib.hid (HUq.out.heap HKA.out (by simp))
                    clear hj hlj
                    obtain ⟨wZ, rfl⟩ : ∃ q, q = wr := ⟨_, rfl⟩
                    go_wp2_with (fail)
                    go_loopw [27] (fun iv wq => ∃ i : Nat, iv = .int .i64 i ∧ i ≤ 9 ∧ Fam wq w.heap.size ps (fun j => List.replicate N (BitVec.ofInt 8 ((j : Int) + 1))) ∧ OwnB wq wY.heap.size (.slice (some ⟨tg, 0, none⟩) 64 tc) (List.replicate 64 100) ∧ Upd (SF ps) wZ wq) (fun iv _ => 9 - (intOf iv).toNat)
                    case atStart => exact ⟨0, rfl, Nat.zero_le _, HFA.out, HTL.out, Upd.refl _ _⟩
                    case round =>
                      obtain ⟨i, rfl, hi, hFr, hTr, hUr⟩ := hrel
                      have HUr := Lib.hid hUr
                      have HKAr := Lib.hid (hUr.heap HKA.out (HFA.out.ne HKA.out (by decide)))
                      have HFAr := Lib.hid hFr
                      have HTLr := Lib.hid hTr
                      clear hUr hFr hTr
                      by_cases hlt : i < 9
                      · have hli : (i : Int) < 9 := by omega
                        have hit : i < ps.length := by rw [HPL.out]; exact hlt
                        obtain ⟨pv, hpv⟩ : ∃ q, ps[i] = q := ⟨_, rfl⟩
                        have cga : wr.cell? ⟨ga, i, none⟩ = some pv := by rw [cell_of_row _ _ _ _ _ _ HKAr.out]; simp [hit, hpv]
                        have HPV := Lib.hid hpv
                        have HIT := Lib.hid hit
                        obtain ⟨L, hL⟩ : ∃ L, List.replicate N (BitVec.ofInt 8 ((i : Int) + 1)) = L := ⟨_, rfl⟩
                        have HLN : Hid (L.length = N) := by show L.length = N; rw [← hL, List.length_replicate]
                        have HOP : Hid (OwnB wr w.heap.size pv L) := by have := HFAr.out.own i hit; rw [hpv] at this; show OwnB wr w.heap.size pv L; rw [← hL]; simpa using this
                        have HLL := Lib.hid hL
                        obtain ⟨PA, pc, ep⟩ := HOP.out.isSlice
                        rw [HLN.out] at ep
                        subst ep
                        clear hpv hL
                        have HCGA := Lib.hid cga
                        have HPM : Hid (∀ q, (Value.slice PA N pc).ownBlock = some q → q ∈ SF ps) := fun q hq => mem_SF.2 ⟨i, HIT.out, (congrArg Value.ownBlock HPV.out).trans hq⟩
                        obtain ⟨wI, rfl⟩ : ∃ q, q = wr := ⟨_, rfl⟩
                        have HZI : Hid (wZ.heap.size ≤ wI.heap.size) := HUr.out.size
                        go_wp2_with (fail)
                        clear cga
                        go_loopw [28, 29] (fun gv qv wx => ∃ q : Nat, qv = .int .i64 q ∧ q ≤ 64 ∧ OwnB wx w.heap.size gv (L ++ List.replicate q 100) ∧ OwnB wx w.heap.size (.slice PA N pc) L ∧ AlB (.slice PA N pc) L gv (L ++ List.replicate q 100) ∧ (∀ k, gv.ownBlock = some k → (Value.slice PA N pc).ownBlock = some k ∨ wI.heap.size ≤ k) ∧ OwnB wx wY.heap.size (.slice (some ⟨tg, 0, none⟩) 64 tc) (List.replicate 64 100) ∧ Upd (Value.slice PA N pc).ownBlock.toList wI wx) (fun _ qv _ => 64 - (intOf qv).toNat)
                        case atStart => exact ⟨0, rfl, Nat.zero_le _, by simpa using HOP.out, HOP.out, by simpa using AlB.refl HOP.out, fun k hk => .inl hk, HTLr.out, Upd.refl _ _⟩
                        case round =>
                          obtain ⟨q, rfl, hq, hOq, hOp, hAl, hGb, hTl, hUq⟩ := hrel
                          have HOq := Lib.hid hOq
                          have HOp := Lib.hid hOp
                          have HAl := Lib.hid hAl
                          have HGb := Lib.hid hGb
                          have HTl := Lib.hid hTl
                          have HUq := Lib.hid hUq
                          have HQL : Hid (q ≤ 64) := hq
                          clear hOq hOp hAl hGb hTl hUq hq
                          by_cases hlq : q < 64
                          · have hqi : (q : Int) < 64 := by omega
                            have hcq : wr.cell? ⟨tg, q, none⟩ = some (U8 100#8) := by
                              have := OwnB.cell HTl.out q (by simpa using hlq)
                              rw [List.getElem_replicate] at this
                              exact this
                            go_wp2_with (with_reducible refine bsB (y := 100#8) (by with_unfolding_all exact rfl) ?_)
                            intro g2 w2' hg2 k2 hU2
                            have hO2 := HOq.out.upd0 hU2
                            have HOp2 := Lib.hid (HOp.out.upd0 hU2)
                            have HTl2 := Lib.hid (HTl.out.upd0 hU2)
                            have hR2 := rd_block k2 (by simp [maxLen])
                            have hB2 : w.heap.size ≤ w2'.heap.size := by have := HU.out.size; have := HUr.out.size; have := HUq.out.size; have := hU2.size; omega
                            have hl2 : (L ++ List.replicate q (100#8)).length + [100#8].length ≤ 140737488355328 := by rw [List.length_append, HLN.out, List.length_replicate]; have := HL.out; have := HQL.out; simp; omega
                            have HW2 : Hid (wr.heap.size ≤ w2'.heap.size) := hU2.size
                            have HU2 := Lib.hid (HUq.out.trans0 hU2)
                            clear hg2 k2 hU2 hcq
                            go_wp2_with (refine append_rd rfl _ _ rfl w.heap.size _ (L ++ List.replicate q 100) (by with_unfolding_all exact rfl) hO2 _ [100#8] (by with_unfolding_all exact rfl) hR2 hl2 hB2 ?_)
                            intro v3' w3' hO3 _ hU3 hG3
                            have HO3 : Hid (OwnB w3' w.heap.size v3' (L ++ List.replicate (q + 1) 100)) := by
                              show OwnB w3' w.heap.size v3' (L ++ List.replicate (q + 1) 100)
                              rw [List.replicate_succ', ← List.append_assoc]; simpa using hO3
                            have hal := hG3.alias w.heap.size _ L HOp2.out HAl.out
                            have HA3 : Hid (AlB (.slice PA N pc) L v3' (L ++ List.replicate (q + 1) 100)) := by
                              have h1 := hal.2
                              show AlB (.slice PA N pc) L v3' (L ++ List.replicate (q + 1) 100)
                              rw [List.replicate_succ', ← List.append_assoc]; simpa using h1
                            have HP3 := Lib.hid hal.1
                            have HG3 : Hid (∀ k, v3'.ownBlock = some k → (Value.slice PA N pc).ownBlock = some k ∨ wI.heap.size ≤ k) := fun k hk => by
                              rcases hG3.block k hk with h | h
                              · exact HGb.out k h
                              · right; have := HUq.out.size; have := HW2.out; omega
                            have HT3 := Lib.hid (HTl2.out.upd hU3 (fun k hk hm => by
                              have h1 := (HTLr.out.lt k hk)
                              rcases HGb.out k (by simpa using hm) with h | h
                              · have := HTY.out k (HPM.out k h); omega
                              · omega))
                            have HU3 : Hid (Upd (Value.slice PA N pc).ownBlock.toList wI w3') := HU2.out.trans' hU3 (fun k hm hl => by
                              rcases HGb.out k (by simpa using hm) with h | h
                              · simpa using h
                              · omega)
                            clear hO3 hU3 hO2 hR2 hB2 hl2 hG3 hal
                            go_wp2_with (fail)
                            go_roundw
                            case rel => exact ⟨q + 1, by go_num, by omega, HO3.out, HP3.out, HA3.out, HG3.out, HT3.out, HU3.out⟩
                            case measure => simp [intOf]; omega
                          · have hqi : ¬ (q : Int) < 64 := by omega
                            have hOq : OwnB wr w.heap.size u28 (L ++ List.replicate 64 100) := by
                              have := HOq.out
                              rwa [show q = 64 by have := HQL.out; omega] at this
                            obtain ⟨GA, gc, eg⟩ := hOq.isSlice
                            rw [List.length_append, HLN.out, List.length_replicate] at eg
                            subst eg
                            have hRq := hOq.rd
                            have cga : wr.cell? ⟨ga, i, none⟩ = some (.slice PA N pc) := HUq.out.cell HCGA.out (fun hm => HFAr.out.ne HKAr.out (by decide) (HPM.out _ (by simpa using hm)))
                            have HDR : Hid (((L ++ List.replicate 64 (100#8)).take (N + 64)).drop N = List.replicate 64 100#8) := by
                              show ((L ++ List.replicate 64 (100#8)).take (N + 64)).drop N = List.replicate 64 100#8
                              rw [List.take_of_length_le (by rw [List.length_append, HLN.out, List.length_replicate]; exact Nat.le_refl _), List.drop_left' HLN.out]
                            clear hOq hlq
                            go_upto_region 53 with (fail)
                            go_simp
                            go_wp2_with (refine cut_bytes rfl _ _ _ rfl GA (N + 64) gc (by with_unfolding_all exact rfl) (L ++ List.replicate 64 100) hRq N (N + 64) (.inr (by with_unfolding_all exact rfl)) (.inl ⟨rfl, rfl⟩) (by omega) (Nat.le_refl _) ?_)
                            intro BX hRX hBX
                            have hRX' : RdB wr (.slice BX 64 (gc - N)) (List.replicate 64 100#8) := by
                              have h1 := hRX
                              try rw [show N + 64 - N = 64 by omega] at h1
                              first
                                | (rw [← HDR.out]; exact h1)
                                | exact h1
                                | (rw [HDR.out] at h1; exact h1)
                                | (rw [← HDR.out]; simpa using h1)
                                | simpa using h1
                            try rw [show N + 64 - N = 64 by omega]
                            have HRX := Lib.hid hRX'
                            clear hRX hRX' hBX hRq cga
                            go_wp2_with (fail)
                            refine (same24 _ (.slice BX 64 (gc - N)) (.slice (some ⟨tg, 0, none⟩) 64 tc) (List.replicate 64 100) (List.replicate 64 100) HRX.out HTl.out.rd (by simp) (by simp)).mono ?_
                            rintro e wS ⟨rfl, hUS⟩
                            have heq : (List.replicate 64 (100 : BitVec 8) == List.replicate 64 100) = true := by simp
                            rw [heq]
                            have HFB : Hid (Fam wr w.heap.size ps (fun j => List.replicate N (BitVec.ofInt 8 ((j : Int) + 1)))) := by
                              have hu : Upd ps[i].ownBlock.toList wI wr := Eq.mpr (congrArg (fun p : Value => Upd p.ownBlock.toList wI wr) HPV.out) HUq.out
                              refine (HFAr.out.set i HIT.out hu (l := L) (Eq.mpr (congrArg (fun p : Value => OwnB wr w.heap.size p L) HPV.out) HOp.out)).congr (fun j hj => ?_)
                              by_cases e : j = i
                              · subst e; simp only [if_true]; exact HLL.out.symm
                              · simp only [if_neg e]
                            have HFB := Lib.hid (HFB.out.upd0 hUS)
                            have HTB := Lib.hid (HTl.out.upd0 hUS)
                            have HUB : Hid (Upd (SF ps) wZ wS) := (HUr.out.trans' HUq.out (fun k hm _ => HPM.out k (by simpa using hm))).trans0 hUS
                            clear hUS heq
                            go_wp2_with (fail)
                            go_roundw
                            case rel => exact ⟨i + 1, by go_num, by omega, HFB.out, HTB.out, HUB.out⟩
                            case measure => simp [intOf]; omega
                      · have hli : ¬ (i : Int) < 9 := by omega
                        have HFX := Lib.hid (HFA.out.lt)
                        have HU : Hid (Upd [] w wr) := HU.out.trans' HUr.out (fun k hm hl => by have := (HFX.out k hm).1; omega)
                        have HBG := Lib.hid (HFA.out.bag HBG.out HUr.out (fun e he k hk hm => by
                          simp only [List.mem_cons, List.not_mem_nil, or_false] at he
                          rcases he with rfl | rfl
                          · exact HD1.out k hk hm
                          · exact HD2.out k hk hm))
                        have HFA := HFAr
                        have HKA := HKAr
                        clear hi hlt HFX
                        obtain ⟨wQ, rfl⟩ : ∃ q, q = wr := ⟨_, rfl⟩
                        go_wp2_with (fail)
                        refine (take_ _ w1.heap.size bb bm 2 _ D6 HBG.out 2 (wf_small (by decide) (by decide)) _ HF2.out).mono ?_
                        rintro e wA ⟨DA, rfl, hBA, hOA, hUA⟩
                        unfold Ent.cells
                        have hBA : BagAt wA w1.heap.size bb bm 2 [(⟨1, 0, 0, v1, body⟩ : Ent)] DA := by simpa [dropE] using hBA
                        have hOA : OwnB wA w1.heap.size v2 body := hOA
                        have HNB : Hid (∀ {k : Nat} {C : Array Value} {T : TypeId} {fr' : Nat × Nat}, wQ.heap[k]? = some (.cells C T fr') → T ≠ 71 → k ∉ [bb, bm]) := fun {k C T fr'} h1 h2 hm => by
                          simp only [List.mem_cons, List.not_mem_nil, or_false] at hm
                          rcases hm with rfl | rfl
                          · exact heap_ne h1 HBG.out.cells h2 rfl
                          · exact map_ne HBG.out.map h1 rfl
                        have HFA := Lib.hid (HFA.out.upd hUA (fun k hk => by obtain ⟨C, fr', h1⟩ := HFA.out.type k hk; exact HNB.out h1 (by decide)))
                        have HKA := Lib.hid (hUA.heap HKA.out (HNB.out HKA.out (by decide)))
                        have HU : Hid (Upd [] w wA) := HU.out.trans' hUA (fun k hm hl => by have := HBG.out.low; have := HRW.out; simp at hm; omega)
                        have HBG := Lib.hid hBA
                        have HZO := Lib.hid hOA
                        obtain ⟨ZA, zc, ez⟩ := hOA.isSlice
                        rw [HN.out] at ez
                        have hzo : v2.oneCell' = true := by rw [ez]; rfl
                        have hsz2 := size_msg 2 0 0 v2
                        have hoz2 := one_msg 2 0 0 hzo
                        have HF1 : Hid (findE [(⟨1, 0, 0, v1, body⟩ : Ent)] 1 = some (⟨1, 0, 0, v1, body⟩ : Ent)) := findE_one _
                        have HEZ := Lib.hid ez
                        clear hBA hOA hUA hzo ez
                        go_wp2_with (with_reducible refine arm_alloc (zero_msg _) ?_)
                        intro b30 wB hb kb hU hz
                        change wB.heap[b30]? = some (.cells (msgC 0 0 0 (.slice none 0 0)) 32 (0, 0)) at kb
                        have HBX : Hid (wA.heap.size = b30) := hb
                        have HUb := Lib.hid hU
                        clear hb hz hU
                        go_wp2_with (with_reducible refine arm_store (by with_unfolding_all exact rfl) (by with_unfolding_all exact rfl) kb hsz2 (by with_unfolding_all exact rfl) hoz2 ?_)
                        intro wC kb' hX hz
                        have hU : Upd [] wA wC := HUb.out.trans' hX (fun k hm hl => by have := List.mem_singleton.1 hm; have := HBX.out; omega)
                        have HK30 := Lib.hid kb'
                        have HZL : Hid (wA.heap.size ≤ wC.heap.size) := hU.size
                        have HZM : Hid (∀ q, v2.ownBlock = some q → q < wA.heap.size) := fun q hq => (HZO.out.lt q hq).2
                        have HFA := Lib.hid (HFA.out.upd0 hU)
                        have HKA := Lib.hid (hU.heap HKA.out (by simp))
                        have HBG := Lib.hid (HBG.out.upd0 hU)
                        have HZO := Lib.hid (HZO.out.upd0 hU)
                        have HU := Lib.hid (HU.out.trans hU)
                        clear kb kb' hX hz hU hsz2 hoz2 HUb
                        go_wp2_with (fail)
                        refine (get_ _ w1.heap.size bb bm 2 _ DA HBG.out 1 (wf_small (by decide) (by decide)) _ HF1.out).mono ?_
                        rintro e w21 ⟨vw, rfl, hO, hU⟩
                        have hO : OwnB w21 wC.heap.size vw body := hO
                        have HRvw : Hid (∀ k, vw.ownBlock = some k → wC.heap.size ≤ k ∧ k < w21.heap.size) := hO.lt
                        have HMwCw21 : Hid (wC.heap.size ≤ w21.heap.size) := hU.size
                        obtain ⟨vwA, vwc, ev⟩ := hO.isSlice
                        rw [HN.out] at ev
                        have hvo : vw.oneCell' = true := by rw [ev]; rfl
                        have HEvw := Lib.hid ev
                        clear ev
                        have HFA := Lib.hid (HFA.out.upd0 hU)
                        have HKA := Lib.hid (hU.heap HKA.out (by simp))
                        have HBG := Lib.hid (HBG.out.upd0 hU)
                        have HZO := Lib.hid (HZO.out.upd0 hU)
                        have HK30 := Lib.hid (hU.heap HK30.out (by simp))
                        have HOvw := Lib.hid hO
                        have HU := Lib.hid (HU.out.trans hU)
                        have hsm := size_msg 1 0 0 vw
                        have hom := one_msg 1 0 0 hvo
                        clear hO hU
                        go_wp2_with (with_reducible refine arm_alloc (zero_msg _) ?_)
                        intro b32 w22 hb kb hU hz
                        change w22.heap[b32]? = some (.cells (msgC 0 0 0 (.slice none 0 0)) 32 (0, 0)) at kb
                        have HBX : Hid (w21.heap.size = b32) := hb
                        have HUb := Lib.hid hU
                        clear hb hz hU
                        go_wp2_with (with_reducible refine arm_store (by with_unfolding_all exact rfl) (by with_unfolding_all exact rfl) kb hsm (by with_unfolding_all exact rfl) hom ?_)
                        intro w23 kb' hX hz
                        have hU : Upd [] w21 w23 := HUb.out.trans' hX (fun k hm hl => by have := List.mem_singleton.1 hm; have := HBX.out; omega)
                        have HMw21w23 : Hid (w21.heap.size ≤ w23.heap.size) := hU.size
                        have HFA := Lib.hid (HFA.out.upd0 hU)
                        have HKA := Lib.hid (hU.heap HKA.out (by simp))
                        have HBG := Lib.hid (HBG.out.upd0 hU)
                        have HZO := Lib.hid (HZO.out.upd0 hU)
                        have HK30 := Lib.hid (hU.heap HK30.out (by simp))
                        have HOvw := Lib.hid (HOvw.out.upd0 hU)
                        have HKvw := Lib.hid kb'
                        have HU := Lib.hid (HU.out.trans hU)
                        clear kb kb' hX hz hU hsm hom hvo HBX HUb
                        have ez := HEZ.out
                        subst ez
                        obtain ⟨wD, rfl⟩ : ∃ q, q = w23 := ⟨_, rfl⟩
                        go_wp2_with (fail)
                        go_loopw [34] (fun kv wq => ∃ k : Nat, kv = .int .i64 k ∧ k ≤ N ∧ OwnB wq w1.heap.size (.slice ZA N zc) (run24 77 k body) ∧ Upd (Value.slice ZA N zc).ownBlock.toList wD wq) (fun kv _ => N - (intOf kv).toNat)
                        case atStart => exact ⟨0, rfl, Nat.zero_le _, HZO.out, Upd.refl _ _⟩
                        case round =>
                          obtain ⟨k, rfl, hk, hOk, hUk⟩ := hrel
                          have HOk := Lib.hid hOk
                          have HUk := Lib.hid hUk
                          have HKL : Hid (k ≤ N) := hk
                          have HNT : Hid (∀ {k : Nat} {C : Array Value} {T : TypeId} {fr' : Nat × Nat}, wD.heap[k]? = some (.cells C T fr') → T ≠ 5 → k ∉ (Value.slice ZA N zc).ownBlock.toList) := fun {k C T fr'} h1 h2 hm => cells_ne HZO.out h1 h2 (by simpa using hm)
                          have hk30 := hUk.heap HK30.out (HNT.out HK30.out (by decide))
                          have HK30r := Lib.hid hk30
                          have c3 : wr.cell? ⟨b30, 3, none⟩ = some (.slice ZA N zc) := by rw [cell_of_row _ _ _ _ _ _ hk30]; rfl
                          clear hOk hUk hk hk30
                          by_cases hlk : k < N
                          · have hki : (k : Int) < (N : Int) := by omega
                            have hkl : k < (run24 77 k body).length := by rw [run24_length _ _ _ (by rw [HN.out]; exact HKL.out), HN.out]; exact hlk
                            have hkb : k < body.length := by rw [HN.out]; exact hlk
                            obtain ⟨g, cap, e, _⟩ := HOk.out.at (by omega)
                            injection e with e e1 e2
                            clear e1 e2
                            subst e
                            obtain ⟨gb, pb, cb, eb, _, _, hby⟩ := HR.out.at (by omega)
                            injection eb with eb e1 e2
                            clear e1 e2
                            subst eb
                            obtain ⟨y, hy⟩ : ∃ y, body[k] = y := ⟨_, rfl⟩
                            have HUwr : Hid (Upd [] w wr) := HU.out.trans' HUk.out (fun q hm hl => by have := (HZO.out.lt q (by simpa using hm)).1; have := HRW.out; omega)
                            have HCB : Hid (∀ W, Upd [] wr W → W.cell? ⟨gb, pb + k, none⟩ = some (U8 y)) := fun W hW => by
                              have := (hby.upd (HUwr.out.trans hW) (by simp)) k hkb
                              rw [hy] at this
                              exact this
                            have HCZ : Hid (∀ W, Upd [] wr W → W.cell? ⟨g, k, none⟩ = some (U8 y)) := fun W hW => by
                              have h1 := OwnB.cell (HOk.out.upd0 hW) k hkl
                              have h2 := run24_get 77 k body hkb
                              rw [List.getElem?_eq_getElem hkl] at h2
                              injection h2 with h2
                              rw [h2, hy] at h1
                              exact h1
                            have HC3 : Hid (∀ W, Upd [] wr W → W.cell? ⟨b30, 3, none⟩ = some (.slice (some ⟨g, 0, none⟩) N zc)) := fun W hW => by rw [cell_of_row _ _ _ _ _ _ (hW.heap HK30r.out (by simp))]; rfl
                            have hne : (y != y) = false := by simp
                            have hkz : 0 + k * 1 = k := by omega
                            have hkp : pb + k * 1 = pb + k := by omega
                            have HKL2 := Lib.hid hkl
                            have hcz := HCZ.out wr (Upd.refl _ _)
                            have hcb := HCB.out wr (Upd.refl _ _)
                            clear hby hy hkl hkz hkp
                            go_upto_region 60 with (fail)
                            go_simp
                            go_quiet (skip)
                            rename Nat => nq
                            obtain ⟨wz, hwz⟩ : ∃ q, wr.drewN nq = q := ⟨_, rfl⟩
                            have hUz : Upd [] wr wz := by rw [← hwz]; exact (Upd.refl _ _).drewN nq
                            rw [hwz]
                            clear hwz hcz hcb c3
                            have HOz := Lib.hid (HOk.out.upd0 hUz)
                            have c3 := HC3.out wz hUz
                            have hc := HCZ.out wz hUz
                            have hf := OwnB.frozen HOz.out k HKL2.out
                            have HS := Lib.hid (OwnB.set HOz.out k HKL2.out 77)
                            rw [run24_set _ _ _ hkb] at HS
                            have HUS : Hid (Upd (Value.slice (some ⟨g, 0, none⟩) N zc).ownBlock.toList wD (wz.setCell ⟨g, k, none⟩ (U8 77))) := (HUk.out.trans0 hUz).setCell _ _ (fun _ => by simp [Value.ownBlock])
                            clear hUz hne hkb
                            go_wp2_with (fail)
                            go_roundw
                            case rel => exact ⟨k + 1, by go_num, by omega, HS.out, HUS.out⟩
                            case measure => simp [intOf]; omega
                          · have hki : ¬ (k : Int) < (N : Int) := by omega
                            have HZT : Hid (∀ q, (Value.slice ZA N zc).ownBlock = some q → q ∉ SF ps) := fun q hq => HD2.out q hq
                            have HU : Hid (Upd [] w wr) := HU.out.trans' HUk.out (fun q hm hl => by have := (HZO.out.lt q (by simpa using hm)).1; have := HRW.out; omega)
                            have HFA := Lib.hid (HFA.out.upd HUk.out (fun q hq hm => HZT.out q (by simpa using hm) hq))
                            have HKA := Lib.hid (HUk.out.heap HKA.out (HNT.out HKA.out (by decide)))
                            have HBG := Lib.hid (HBG.out.upd HUk.out (HNT.out HBG.out.cells (by decide)) (fun hm => mapb_ne HZO.out HBG.out.map (by simpa using hm)) (fun e he q hq hm => by
                              rw [List.mem_singleton.1 he] at hq
                              exact HD12.out q (by simpa using hm) hq))
                            have HOvw := Lib.hid (HOvw.out.upd HUk.out (fun q hq hm => by have h1 := (HZO.out.lt q (by simpa using hm)).2; have h2 := HRvw.out q hq; have h3 := HZL.out; have h4 := HZM.out q (by simpa using hm); omega))
                            have HKvw := Lib.hid (HUk.out.heap HKvw.out (HNT.out HKvw.out (by decide)))
                            have HK30 := HK30r
                            clear hlk
                            obtain ⟨wE, rfl⟩ : ∃ q, q = wr := ⟨_, rfl⟩
                            go_wp2_with (fail)
                            refine (get_ _ w1.heap.size bb bm 2 _ DA HBG.out 1 (wf_small (by decide) (by decide)) _ HF1.out).mono ?_
                            rintro e w24 ⟨vv, rfl, hO, hU⟩
                            have hO : OwnB w24 wE.heap.size vv body := hO
                            have HRvv : Hid (∀ k, vv.ownBlock = some k → wE.heap.size ≤ k ∧ k < w24.heap.size) := hO.lt
                            have HMwEw24 : Hid (wE.heap.size ≤ w24.heap.size) := hU.size
                            obtain ⟨vvA, vvc, ev⟩ := hO.isSlice
                            rw [HN.out] at ev
                            have hvo : vv.oneCell' = true := by rw [ev]; rfl
                            have HEvv := Lib.hid ev
                            clear ev
                            have HFA := Lib.hid (HFA.out.upd0 hU)
                            have HKA := Lib.hid (hU.heap HKA.out (by simp))
                            have HBG := Lib.hid (HBG.out.upd0 hU)
                            have HOvw := Lib.hid (HOvw.out.upd0 hU)
                            have HKvw := Lib.hid (hU.heap HKvw.out (by simp))
                            have HK30 := Lib.hid (hU.heap HK30.out (by simp))
                            have HOvv := Lib.hid hO
                            have HU := Lib.hid (HU.out.trans hU)
                            have hsm := size_msg 1 0 0 vv
                            have hom := one_msg 1 0 0 hvo
                            clear hO hU
                            go_wp2_with (with_reducible refine arm_alloc (zero_msg _) ?_)
                            intro b35 w25 hb kb hU hz
                            change w25.heap[b35]? = some (.cells (msgC 0 0 0 (.slice none 0 0)) 32 (0, 0)) at kb
                            have HBX : Hid (w24.heap.size = b35) := hb
                            have HUb := Lib.hid hU
                            clear hb hz hU
                            go_wp2_with (with_reducible refine arm_store (by with_unfolding_all exact rfl) (by with_unfolding_all exact rfl) kb hsm (by with_unfolding_all exact rfl) hom ?_)
                            intro w26 kb' hX hz
                            have hU : Upd [] w24 w26 := HUb.out.trans' hX (fun k hm hl => by have := List.mem_singleton.1 hm; have := HBX.out; omega)
                            have HMw24w26 : Hid (w24.heap.size ≤ w26.heap.size) := hU.size
                            have HFA := Lib.hid (HFA.out.upd0 hU)
                            have HKA := Lib.hid (hU.heap HKA.out (by simp))
                            have HBG := Lib.hid (HBG.out.upd0 hU)
                            have HOvw := Lib.hid (HOvw.out.upd0 hU)
                            have HKvw := Lib.hid (hU.heap HKvw.out (by simp))
                            have HK30 := Lib.hid (hU.heap HK30.out (by simp))
                            have HOvv := Lib.hid (HOvv.out.upd0 hU)
                            have HKvv := Lib.hid kb'
                            have HU := Lib.hid (HU.out.trans hU)
                            clear kb kb' hX hz hU hsm hom hvo HBX HUb
                            obtain ⟨wF, rfl⟩ : ∃ q, q = w26 := ⟨_, rfl⟩
                            go_wp2_with (fail)
                            go_loopw [37] (fun iv wq => ∃ i : Nat, iv = .int .i64 i ∧ i ≤ 9 ∧ Upd [] wF wq) (fun iv _ => 9 - (intOf iv).toNat)
                            case atStart => exact ⟨0, rfl, Nat.zero_le _, Upd.refl _ _⟩
                            case round =>
                              obtain ⟨i, rfl, hi, hUr⟩ := hrel
                              have HUr := Lib.hid hUr
                              have HKAr := Lib.hid (hUr.heap HKA.out (by simp))
                              have HFAr := Lib.hid (HFA.out.upd0 hUr)
                              clear hUr
                              by_cases hlt : i < 9
                              · have hli : (i : Int) < 9 := by omega
                                have hit : i < ps.length := by rw [HPL.out]; exact hlt
                                obtain ⟨pv, hpv⟩ : ∃ q, ps[i] = q := ⟨_, rfl⟩
                                have cga : wr.cell? ⟨ga, i, none⟩ = some pv := by rw [cell_of_row _ _ _ _ _ _ HKAr.out]; simp [hit, hpv]
                                have HOP : Hid (OwnB wr w.heap.size pv (List.replicate N (BitVec.ofInt 8 ((i : Int) + 1)))) := by have := HFAr.out.own i hit; rw [hpv] at this; show OwnB wr w.heap.size pv (List.replicate N (BitVec.ofInt 8 ((i : Int) + 1))); simpa using this
                                obtain ⟨PA, pc, ep⟩ := HOP.out.isSlice
                                rw [List.length_replicate] at ep
                                subst ep
                                clear hpv hit
                                have HCGA := Lib.hid cga
                                clear cga
                                obtain ⟨wI, rfl⟩ : ∃ q, q = wr := ⟨_, rfl⟩
                                have hi9 : (i : Int) + 1 ≤ 9 := by omega
                                go_wp2_with (fail)
                                go_loopw [38] (fun kv wx => ∃ k : Nat, kv = .int .i64 k ∧ k ≤ N ∧ Upd [] wI wx) (fun kv _ => N - (intOf kv).toNat)
                                case atStart => exact ⟨0, rfl, Nat.zero_le _, Upd.refl _ _⟩
                                case round =>
                                  obtain ⟨k, rfl, hk, hUk⟩ := hrel
                                  have HUk := Lib.hid hUk
                                  have HKL : Hid (k ≤ N) := hk
                                  have cga : wr.cell? ⟨ga, i, none⟩ = some (.slice PA N pc) := hUk.cell HCGA.out (by simp)
                                  clear hUk hk
                                  by_cases hlk : k < N
                                  · have hki : (k : Int) < (N : Int) := by omega
                                    obtain ⟨g, cap, e, _⟩ := HOP.out.at (by rw [List.length_replicate]; omega)
                                    injection e with e e1 e2
                                    clear e1 e2
                                    subst e
                                    have hc : wr.cell? ⟨g, k, none⟩ = some (U8 (BitVec.ofInt 8 ((i : Int) + 1))) := by
                                      have := OwnB.cell (HOP.out.upd0 HUk.out) k (by rw [List.length_replicate]; exact hlk)
                                      rw [List.getElem_replicate] at this
                                      exact this
                                    have hne : (BitVec.ofInt 8 ((i : Int) + 1) != BitVec.ofInt 8 ((i : Int) + 1)) = false := by simp
                                    go_wp2_with (fail)
                                    go_roundw
                                    case rel => exact ⟨k + 1, by go_num, by omega, HUk.out⟩
                                    case measure => simp [intOf]; omega
                                  · have hki : ¬ (k : Int) < (N : Int) := by omega
                                    go_wp2_with (fail)
                                    go_roundw
                                    case rel => exact ⟨i + 1, by go_num, by omega, HUr.out.trans HUk.out⟩
                                    case measure => simp [intOf]; omega
                              · have hli : ¬ (i : Int) < 9 := by omega
                                have k30 := HUr.out.heap HK30.out (by simp)
                                have c30 : wr.cell? ⟨b30, 3, none⟩ = some (.slice ZA N zc) := by rw [cell_of_row _ _ _ _ _ _ k30]; rfl
                                have c32 : wr.cell? ⟨b32, 3, none⟩ = some vw := by rw [cell_of_row _ _ _ _ _ _ (HUr.out.heap HKvw.out (by simp))]; rfl
                                have HKvvr := Lib.hid (HUr.out.heap HKvv.out (by simp))
                                have HOvwr := Lib.hid (HOvw.out.upd0 HUr.out)
                                have HOvvr := Lib.hid (HOvv.out.upd0 HUr.out)
                                have HU := Lib.hid (HU.out.trans HUr.out)
                                clear k30 hlt hi
                                go_wp2_with (fail)
                                refine (same24 _ vw (.slice A N c) body body HOvwr.out.rd (HR.out.upd0 HU.out) (by rw [HN.out]; have := HL.out; omega) (by rw [HN.out]; have := HL.out; omega)).mono ?_
                                rintro e wG ⟨rfl, hUG⟩
                                have heq : (body == body) = true := by simp
                                rw [heq]
                                have c35 : wG.cell? ⟨b35, 3, none⟩ = some vv := by rw [cell_of_row _ _ _ _ _ _ (hUG.heap HKvvr.out (by simp))]; rfl
                                have HOvvG := Lib.hid (HOvvr.out.upd0 hUG)
                                have HUG := Lib.hid (HU.out.trans hUG)
                                clear hUG heq c30 c32
                                go_wp2_with (fail)
                                refine (same24 _ vv (.slice A N c) body body HOvvG.out.rd (HR.out.upd0 HUG.out) (by rw [HN.out]; have := HL.out; omega) (by rw [HN.out]; have := HL.out; omega)).mono ?_
                                rintro e wH ⟨rfl, hUH⟩
                                have heq : (body == body) = true := by simp
                                rw [heq]
                                have HUH := Lib.hid (HUG.out.trans hUH)
                                clear hUH heq c35
                                go_wp2_with (fail)
                                go_ret
                                exact ⟨rfl, HUH.out⟩
end Go.Proofs.Ytjeddokenpkpnaa
