/-
  The program's Join.
-/
import Derived.Test.YtjoliagnhmfdiaaRefJoin
import Derived.Deep.DeepCutAuto
namespace Go.Proofs.Ytjoliagnhmfdiaa
open Go Go.RowKit Go.Proofs
theorem yields_mid {P : Program} {S : World → Prop} {a : Act} {dst : Option Tmp} {ty type : TypeId} {pos : String} {after : Array Edge} {gd : Option (Nat × Bool)} {x : Operand} {g k : Nat} {cs : List Value} {d : TypeDesc}
    (hx : a.eval x = .pointer (some ⟨g, k, none⟩)) (hr : ∀ w, S w → w.rangeAt g k cs) (hu : P.underlying ty = some d) (hd : d.isRow = true) (hi : (P.info? ty).map (·.size) = some cs.length) :
    ∀ w, S w → (execOp a.eval ⟨dst, .load ty x, type, pos, after, gd⟩).run P w = .ok (.value (.agg cs.toArray)) w := by
  intro w hS
  unfold execOp
  simp only [hx, Instr.loadAt, Instr.sureAddr, Sem.run_bind, Sem.run_pure, Result.andThen_ok, run_loadVar_mid w g k ty cs d (hr w hS) hu hd hi]
theorem yields_build2 {P : Program} {S : World → Prop} {a : Act} {dst : Option Tmp} {ty type : TypeId} {pos : String} {after : Array Edge} {gd : Option (Nat × Bool)} {x0 x1 : Operand} {v0 v1 : Value} {cs : Array Value}
    (h0 : a.eval x0 = v0) (h1 : a.eval x1 = v1) (hf : P.built ty [(0, v0), (1, v1)] = some cs) : ∀ w, S w → (execOp a.eval ⟨dst, .build ty #[(0, x0), (1, x1)], type, pos, after, gd⟩).run P w = .ok (.value (.agg cs)) w := by
  subst h0 h1
  intro w _
  unfold execOp
  simp only [Sem.run_bind, Sem.run_pure, Result.andThen_ok, List.map_toArray, List.map_cons, List.map_nil, run_build w ty #[(0, a.eval x0), (1, a.eval x1)] cs (by simpa using hf)]
theorem arm_build7 {P : Program} {ops : Array Oper} {rest : List Oper} {a : Act} {w : World} {Q : Exit → Act → World → Prop} {dst : Option Tmp} {ty type : TypeId} {pos : String} {after : Array Edge} {x0 x1 x2 x3 x4 x5 x6 : Operand} {v0 v1 v2 v3 v4 v5 v6 : Value} {cs : Array Value}
    (h0 : a.eval x0 = v0) (h1 : a.eval x1 = v1) (h2 : a.eval x2 = v2) (h3 : a.eval x3 = v3) (h4 : a.eval x4 = v4) (h5 : a.eval x5 = v5) (h6 : a.eval x6 = v6) (hf : P.built ty [(0, v0), (1, v1), (2, v2), (3, v3), (4, v4), (5, v5), (6, v6)] = some cs) (h : wpList P ops Q rest (a.put dst (.agg cs)) w) : wpList P ops Q (⟨dst, .build ty #[(0, x0), (1, x1), (2, x2), (3, x3), (4, x4), (5, x5), (6, x6)], type, pos, after, none⟩ :: rest) a w := by
  subst h0 h1 h2 h3 h4 h5 h6
  exact arm_build (by simpa using hf) h
theorem info_mark : ∃ i, Try.prog.info? 42 = some i ∧ (∃ z, i.zero = some z ∧ z.cells.size = 33) := by
  have h : (Try.prog.info? 42).map (fun i => (i.zero.map (·.cells.size))) = some (some 33) := by kernel_rfl
  cases hq : Try.prog.info? 42 with
  | none => rw [hq] at h; cases h
  | some i =>
    rw [hq] at h
    simp only [Option.map_some, Option.some.injEq] at h
    refine ⟨i, rfl, ?_⟩
    cases hz : i.zero with
    | none => rw [hz] at h; cases h
    | some z => rw [hz] at h; exact ⟨z, rfl, by simpa using h⟩
theorem mark_fields : ∃ f0 f1, Try.prog.underlying 42 = some (.struct #[f0, f1]) ∧ f0.type = 3 ∧ f1.type = 23 ∧ f0.offset = 0 ∧ f1.offset = 1 := ⟨_, _, Try.underlying42, rfl, rfl, rfl, rfl⟩
theorem built_mark (b : Int) (s : List (BitVec 8)) (hs : s.length = 32) : Try.prog.built 42 [(0, .int .i64 b), (1, .agg (s.map U8).toArray)] = some (markC b s).toArray := by
  obtain ⟨i, hi, ⟨z, hz, hzc⟩⟩ := info_mark
  obtain ⟨f0, f1, hu, t0, t1, o0, o1⟩ := mark_fields
  obtain ⟨ib, hq, hsb⟩ := info_of (T := 3) size_int1
  obtain ⟨ig, hr, hsg⟩ := info_of (T := 23) size_hash32
  have := built_two (P := Try.prog) (s0 := 1) (s1 := 32) (v0 := .int .i64 b) (v1 := .agg (s.map U8).toArray) hi hu hz (by rw [t0]; exact hq) (by rw [t1]; exact hr) o0 o1 hsb hsg hzc (by simp [Value.cells]) (by simp [Value.cells, hs])
  rw [this]
  simp [Value.cells, markC]
theorem takes_cmp (a b : Ent) (ha : a.ok) (hb : b.ok) : takes a b = decide (cmpM a.idx a.val b.idx b.val < 0) := by
  have h := above_cmp b.val a.val (by rw [ha.2.1, hb.2.1])
  unfold takes cmpM cmpI
  rcases Int.lt_trichotomy a.idx b.idx with h1 | h1 | h1
  · simp [h1]
  · have n1 : ¬ (a.idx < b.idx) := by omega
    have n2 : ¬ (b.idx < a.idx) := by omega
    simp only [h1, gt_iff_lt, Int.lt_irrefl, decide_false, beq_self_eq_true, Bool.true_and, Bool.false_or, if_false, if_true]
    rw [Bool.eq_iff_iff, decide_eq_true_eq]
    exact h.1
  · have n1 : ¬ (a.idx < b.idx) := by omega
    have n3 : ¬ (b.idx = a.idx) := by omega
    simp [n1, n3, h1]
theorem mark_join (a b : Ent) (ha : a.ok) (hb : b.ok) : (if cmpM a.idx a.val b.idx b.val < 0 then markC b.idx b.val else markC a.idx a.val) = markC (joinE a b).idx (joinE a b).val := by
  simp only [joinE, takes_cmp a b ha hb, decide_eq_true_eq]
  split <;> rfl
theorem seal_join (x : Bool) (s : List (BitVec 8)) (y : Bool) (t : List (BitVec 8)) (hs : s.length = 64) (ht : t.length = 64) :
    (if cmpS x (if x then s else zeros64) y (if y then t else zeros64) < 0 then sealC y (if y then t else zeros64) else sealC x (if x then s else zeros64)) = sealC (x || y) (sealSig x s y t) := by
  cases x <;> cases y <;> simp [cmpS, sealSig]
  have h := above_cmp s t (by rw [hs, ht])
  by_cases h1 : cmpB s t < 0
  · have h2 : ¬ (aboveB s t = true) := fun h3 => by have := h.1.1 h3; have := h.2.2.1 h1; omega
    simp [h1, h2]
  · rw [if_neg h1]
    by_cases h2 : aboveB s t = true
    · simp [h2]
    · have h3 : cmpB t s = 0 := by
        have a1 : ¬ (cmpB t s < 0) := fun k => h2 (h.1.2 k)
        have a2 : ¬ (cmpB t s > 0) := fun k => h1 (h.2.2.2 k)
        omega
      have h4 := h.2.1.1 h3
      simp [h4]
set_option maxRecDepth 100000 in
set_option maxHeartbeats 12800000 in
theorem tjoin_other (w : World) (a b : Ent) (ha : a.ok) (hb : b.ok) (hc : crtEq a.crt b.crt = false) :
    Calls Try.prog 5 #[.agg (entC a).toArray, .agg (entC b).toArray] w fun e w' => e = .returned (.tuple #[.agg (entC zeroEnt).toArray, .int .i64 171]) ∧ Upd [] w w' := by
  have hq := fun W => neq_crt W a.crt b.crt ha.1 hb.1
  rw [hc] at hq
  have hgd := guard_crt
  have hsa := szcrt ha.1
  have hsb := szcrt hb.1
  have hsz := szent zeroEnt_ok
  have haz := all_of_one (entC_one zeroEnt)
  have hb0 := built_ent0
  have HA := Lib.hid ha
  have HB := Lib.hid hb
  obtain ⟨la, hla⟩ : ∃ l, crtC a.crt = l := ⟨_, rfl⟩
  obtain ⟨lb, hlb⟩ : ∃ l, crtC b.crt = l := ⟨_, rfl⟩
  obtain ⟨ca, hca⟩ : ∃ l, (entC a).toArray = l := ⟨_, rfl⟩
  obtain ⟨cb, hcb⟩ : ∃ l, (entC b).toArray = l := ⟨_, rfl⟩
  obtain ⟨cz, hcz⟩ : ∃ l, (entC zeroEnt).toArray = l := ⟨_, rfl⟩
  have HZZ : Hid (∀ W, (zeroValue 29).run Try.prog W = .ok (.agg cz) W) := fun W => by rw [← hcz]; exact zero_ent W
  rw [hla] at hq hsa
  rw [hlb] at hq hsb
  rw [hcz] at hsz haz hb0 ⊢
  rw [hca, hcb]
  have HLA := Lib.hid hla
  have HLB := Lib.hid hlb
  have HCA := Lib.hid hca
  have HCB := Lib.hid hcb
  clear ha hb hc hla hlb hca hcb hcz
  go_enter Try.func5, Try.ntmps5
  go_wp2_with (with_reducible refine arm_box (by with_unfolding_all exact rfl) ?_)
  intro b2 w2 hb2 k2 hU2 hz2
  change w2.heap[b2]? = some (.cells ca 29 (0, 0)) at k2
  go_wp2_with (with_reducible refine arm_box (by with_unfolding_all exact rfl) ?_)
  intro b3 w3 hb3 k3 hU3 hz3
  change w3.heap[b3]? = some (.cells cb 29 (0, 0)) at k3
  go_wp2_with (with_reducible refine arm_alloc (HZZ.out _) ?_)
  intro b4 w4 hb4 k4 hU4 hz4
  change w4.heap[b4]? = some (.cells cz 29 (0, 0)) at k4
  have k2' := hU4.heap (hU3.heap k2 (by simp)) (by simp)
  have k3' := hU4.heap k3 (by simp)
  clear k2 k3
  have k2 : EntAt w4 b2 a := by unfold EntAt; rw [HCA.out]; exact k2'
  have k3 : EntAt w4 b3 b := by unfold EntAt; rw [HCB.out]; exact k3'
  have hV4 := (hU2.trans hU3).trans hU4
  have hl4 : w.heap.size ≤ b4 := by have h1 := hU2.size; have h2 := hU3.size; omega
  clear k2' k3' hb2 hU2 hz2 hb3 hU3 hz3 hb4 hU4 hz4
  have r2 := k2.crt HA.out
  have r3 := k3.crt HB.out
  rw [HLA.out] at r2
  rw [HLB.out] at r3
  go_wp2_with (first
    | (with_reducible refine arm_load_mid (g := b2) (k := 0) (by with_unfolding_all exact rfl) r2 Try.underlying27 rfl hsa ?_)
    | (with_reducible refine arm_load_mid (g := b3) (k := 0) (by with_unfolding_all exact rfl) r3 Try.underlying27 rfl hsb ?_)
    | (with_reducible refine arm_build0 hb0 ?_)
    | (with_reducible refine arm_store (by with_unfolding_all exact rfl) (by with_unfolding_all exact rfl) k4 hsz rfl haz ?_))
  intro w5 k5 hX5 hz5
  go_wp2_with (fail)
  refine bodyPost_ret (v := .tuple #[.agg cz, .int .i64 171]) (results_agg_tmp rfl _ _ b4 29 _ (0, 0) _ rfl k5 Try.underlying29 rfl hsz rfl) rfl ⟨rfl, ?_⟩
  exact hV4.trans' hX5 (fun i hm hi => by simp at hm; omega)
set_option maxRecDepth 100000 in
set_option maxHeartbeats 51200000 in
theorem tjoin_same (w : World) (a b : Ent) (ha : a.ok) (hb : b.ok) (hc : crtEq a.crt b.crt = true) :
    Calls Try.prog 5 #[.agg (entC a).toArray, .agg (entC b).toArray] w fun e w' => e = .returned (.tuple #[.agg (entC (joinE a b)).toArray, .int .i64 0]) ∧ Upd [] w w' := by
  have hq := fun W => neq_crt W a.crt b.crt ha.1 hb.1
  rw [hc] at hq
  have hgd := guard_crt
  have hsa := szcrt ha.1
  have hsb := szcrt hb.1
  have hsva := szh ha.2.1
  have hsvb := szh hb.2.1
  have hsfa := szg ha.2.2.1
  have hsfb := szg hb.2.2.1
  have hsra := szg ha.2.2.2
  have hsrb := szg hb.2.2.2
  have z := zeroEnt_ok
  have oJ := joinE_ok ha hb
  have hoJ := samez z oJ
  have hsJ := szent oJ
  have haJ := all_of_one (entC_one (joinE a b))
  have hb7 := built_ent7 a.crt ha.1 (joinE a b).idx (joinE a b).val oJ.2.1 (a.fz || b.fz) (sealSig a.fz a.fs b.fz b.fs) oJ.2.2.1 (a.rv || b.rv) (sealSig a.rv a.rs b.rv b.rs) oJ.2.2.2
  have hl1 : (joinE a b).val.length = 32 := oJ.2.1
  have hl2 : (sealSig a.fz a.fs b.fz b.fs).length = 64 := oJ.2.2.1
  have hl3 : (sealSig a.rv a.rs b.rv b.rs).length = 64 := oJ.2.2.2
  have hJE : (⟨a.crt, (joinE a b).idx, (joinE a b).val, a.fz || b.fz, sealSig a.fz a.fs b.fz b.fs, a.rv || b.rv, sealSig a.rv a.rs b.rv b.rs⟩ : Ent) = joinE a b := rfl
  rw [hJE] at hb7
  have hsJv := szh oJ.2.1
  have hsJf : (Try.prog.info? 25).map (·.size) = some ((sealSig a.fz a.fs b.fz b.fs).map U8).length := szg oJ.2.2.1
  have hsJr : (Try.prog.info? 25).map (·.size) = some ((sealSig a.rv a.rs b.rv b.rs).map U8).length := szg oJ.2.2.2
  have hbm1 := built_mark a.idx a.val ha.2.1
  have hbm2 := built_mark b.idx b.val hb.2.1
  have HGR : Hid (∀ W, Calls Try.prog 12 #[.agg (markC a.idx a.val).toArray, .agg (markC b.idx b.val).toArray, .func (.func 13) #[.agg (markC a.idx a.val).toArray] #[]] W fun e w' => e = .returned (.agg (markC (joinE a b).idx (joinE a b).val).toArray) ∧ Upd [] W w') := fun W => by
    have := greater_m W a.idx b.idx a.val b.val ha.2.1 hb.2.1
    rwa [mark_join a b ha hb] at this
  have hz1 : (if a.fz then a.fs else zeros64).length = 64 := by split; exact ha.2.2.1; exact zeros64_len
  have hz2 : (if b.fz then b.fs else zeros64).length = 64 := by split; exact hb.2.2.1; exact zeros64_len
  have hz3 : (if a.rv then a.rs else zeros64).length = 64 := by split; exact ha.2.2.2; exact zeros64_len
  have hz4 : (if b.rv then b.rs else zeros64).length = 64 := by split; exact hb.2.2.2; exact zeros64_len
  have HGS1 : Hid (∀ W, Calls Try.prog 15 #[.agg (sealC a.fz (if a.fz then a.fs else zeros64)).toArray, .agg (sealC b.fz (if b.fz then b.fs else zeros64)).toArray, .func (.func 16) #[.agg (sealC a.fz (if a.fz then a.fs else zeros64)).toArray] #[]] W fun e w' => e = .returned (.agg (sealC (a.fz || b.fz) (sealSig a.fz a.fs b.fz b.fs)).toArray) ∧ Upd [] W w') := fun W => by
    have := greater_s W a.fz b.fz _ _ hz1 hz2
    rwa [seal_join a.fz a.fs b.fz b.fs ha.2.2.1 hb.2.2.1] at this
  have HGS2 : Hid (∀ W, Calls Try.prog 15 #[.agg (sealC a.rv (if a.rv then a.rs else zeros64)).toArray, .agg (sealC b.rv (if b.rv then b.rs else zeros64)).toArray, .func (.func 16) #[.agg (sealC a.rv (if a.rv then a.rs else zeros64)).toArray] #[]] W fun e w' => e = .returned (.agg (sealC (a.rv || b.rv) (sealSig a.rv a.rs b.rv b.rs)).toArray) ∧ Upd [] W w') := fun W => by
    have := greater_s W a.rv b.rv _ _ hz3 hz4
    rwa [seal_join a.rv a.rs b.rv b.rs ha.2.2.2 hb.2.2.2] at this
  have HC1 : Hid (∀ W, Calls Try.prog 14 #[.bool a.fz, .agg (a.fs.map U8).toArray] W fun e w' => e = .returned (.agg (sealC a.fz (if a.fz then a.fs else zeros64)).toArray) ∧ Upd [] W w') := fun W => clean_ W a.fz a.fs ha.2.2.1
  have HC2 : Hid (∀ W, Calls Try.prog 14 #[.bool b.fz, .agg (b.fs.map U8).toArray] W fun e w' => e = .returned (.agg (sealC b.fz (if b.fz then b.fs else zeros64)).toArray) ∧ Upd [] W w') := fun W => clean_ W b.fz b.fs hb.2.2.1
  have HC3 : Hid (∀ W, Calls Try.prog 14 #[.bool a.rv, .agg (a.rs.map U8).toArray] W fun e w' => e = .returned (.agg (sealC a.rv (if a.rv then a.rs else zeros64)).toArray) ∧ Upd [] W w') := fun W => clean_ W a.rv a.rs ha.2.2.2
  have HC4 : Hid (∀ W, Calls Try.prog 14 #[.bool b.rv, .agg (b.rs.map U8).toArray] W fun e w' => e = .returned (.agg (sealC b.rv (if b.rv then b.rs else zeros64)).toArray) ∧ Upd [] W w') := fun W => clean_ W b.rv b.rs hb.2.2.2
  have s_cm1 : (Try.prog.info? 42).map (·.size) = some (markC a.idx a.val).toArray.size := by rw [size_mark]; simp [markC_length ha.2.1]
  have o_cm1 : zmark.size = (markC a.idx a.val).toArray.size := by simp [zmark, zrow8_size, markC_length ha.2.1]
  have a_cm1 := markC_all a.idx a.val
  have s_cm2 : (Try.prog.info? 42).map (·.size) = some (markC b.idx b.val).toArray.size := by rw [size_mark]; simp [markC_length hb.2.1]
  have o_cm2 : zmark.size = (markC b.idx b.val).toArray.size := by simp [zmark, zrow8_size, markC_length hb.2.1]
  have a_cm2 := markC_all b.idx b.val
  have s_cm3 : (Try.prog.info? 42).map (·.size) = some (markC (joinE a b).idx (joinE a b).val).toArray.size := by rw [size_mark]; simp [markC_length hl1]
  have o_cm3 : zmark.size = (markC (joinE a b).idx (joinE a b).val).toArray.size := by simp [zmark, zrow8_size, markC_length hl1]
  have a_cm3 := markC_all (joinE a b).idx (joinE a b).val
  have s_cs1 : (Try.prog.info? 46).map (·.size) = some (sealC a.fz (if a.fz then a.fs else zeros64)).toArray.size := by rw [size_seal]; simp [sealC_length hz1]
  have o_cs1 : zseal.size = (sealC a.fz (if a.fz then a.fs else zeros64)).toArray.size := by simp [zseal, zrow8_size, sealC_length hz1]
  have a_cs1 := sealC_all a.fz (if a.fz then a.fs else zeros64)
  have s_cs2 : (Try.prog.info? 46).map (·.size) = some (sealC b.fz (if b.fz then b.fs else zeros64)).toArray.size := by rw [size_seal]; simp [sealC_length hz2]
  have o_cs2 : zseal.size = (sealC b.fz (if b.fz then b.fs else zeros64)).toArray.size := by simp [zseal, zrow8_size, sealC_length hz2]
  have a_cs2 := sealC_all b.fz (if b.fz then b.fs else zeros64)
  have s_cs3 : (Try.prog.info? 46).map (·.size) = some (sealC (a.fz || b.fz) (sealSig a.fz a.fs b.fz b.fs)).toArray.size := by rw [size_seal]; simp [sealC_length hl2]
  have o_cs3 : zseal.size = (sealC (a.fz || b.fz) (sealSig a.fz a.fs b.fz b.fs)).toArray.size := by simp [zseal, zrow8_size, sealC_length hl2]
  have a_cs3 := sealC_all (a.fz || b.fz) (sealSig a.fz a.fs b.fz b.fs)
  have s_ct1 : (Try.prog.info? 46).map (·.size) = some (sealC a.rv (if a.rv then a.rs else zeros64)).toArray.size := by rw [size_seal]; simp [sealC_length hz3]
  have o_ct1 : zseal.size = (sealC a.rv (if a.rv then a.rs else zeros64)).toArray.size := by simp [zseal, zrow8_size, sealC_length hz3]
  have a_ct1 := sealC_all a.rv (if a.rv then a.rs else zeros64)
  have s_ct2 : (Try.prog.info? 46).map (·.size) = some (sealC b.rv (if b.rv then b.rs else zeros64)).toArray.size := by rw [size_seal]; simp [sealC_length hz4]
  have o_ct2 : zseal.size = (sealC b.rv (if b.rv then b.rs else zeros64)).toArray.size := by simp [zseal, zrow8_size, sealC_length hz4]
  have a_ct2 := sealC_all b.rv (if b.rv then b.rs else zeros64)
  have s_ct3 : (Try.prog.info? 46).map (·.size) = some (sealC (a.rv || b.rv) (sealSig a.rv a.rs b.rv b.rs)).toArray.size := by rw [size_seal]; simp [sealC_length hl3]
  have o_ct3 : zseal.size = (sealC (a.rv || b.rv) (sealSig a.rv a.rs b.rv b.rs)).toArray.size := by simp [zseal, zrow8_size, sealC_length hl3]
  have a_ct3 := sealC_all (a.rv || b.rv) (sealSig a.rv a.rs b.rv b.rs)
  obtain ⟨cm1, e_cm1⟩ : ∃ c, (markC a.idx a.val).toArray = c := ⟨_, rfl⟩
  rw [e_cm1] at s_cm1 o_cm1 a_cm1 HGR hbm1
  have E_cm1 := Lib.hid e_cm1
  clear e_cm1
  obtain ⟨cm2, e_cm2⟩ : ∃ c, (markC b.idx b.val).toArray = c := ⟨_, rfl⟩
  rw [e_cm2] at s_cm2 o_cm2 a_cm2 HGR hbm2
  have E_cm2 := Lib.hid e_cm2
  clear e_cm2
  obtain ⟨cm3, e_cm3⟩ : ∃ c, (markC (joinE a b).idx (joinE a b).val).toArray = c := ⟨_, rfl⟩
  rw [e_cm3] at s_cm3 o_cm3 a_cm3 HGR
  have E_cm3 := Lib.hid e_cm3
  clear e_cm3
  obtain ⟨cs1, e_cs1⟩ : ∃ c, (sealC a.fz (if a.fz then a.fs else zeros64)).toArray = c := ⟨_, rfl⟩
  rw [e_cs1] at s_cs1 o_cs1 a_cs1 HGS1 HC1
  have E_cs1 := Lib.hid e_cs1
  clear e_cs1
  obtain ⟨cs2, e_cs2⟩ : ∃ c, (sealC b.fz (if b.fz then b.fs else zeros64)).toArray = c := ⟨_, rfl⟩
  rw [e_cs2] at s_cs2 o_cs2 a_cs2 HGS1 HC2
  have E_cs2 := Lib.hid e_cs2
  clear e_cs2
  obtain ⟨cs3, e_cs3⟩ : ∃ c, (sealC (a.fz || b.fz) (sealSig a.fz a.fs b.fz b.fs)).toArray = c := ⟨_, rfl⟩
  rw [e_cs3] at s_cs3 o_cs3 a_cs3 HGS1
  have E_cs3 := Lib.hid e_cs3
  clear e_cs3
  obtain ⟨ct1, e_ct1⟩ : ∃ c, (sealC a.rv (if a.rv then a.rs else zeros64)).toArray = c := ⟨_, rfl⟩
  rw [e_ct1] at s_ct1 o_ct1 a_ct1 HGS2 HC3
  have E_ct1 := Lib.hid e_ct1
  clear e_ct1
  obtain ⟨ct2, e_ct2⟩ : ∃ c, (sealC b.rv (if b.rv then b.rs else zeros64)).toArray = c := ⟨_, rfl⟩
  rw [e_ct2] at s_ct2 o_ct2 a_ct2 HGS2 HC4
  have E_ct2 := Lib.hid e_ct2
  clear e_ct2
  obtain ⟨ct3, e_ct3⟩ : ∃ c, (sealC (a.rv || b.rv) (sealSig a.rv a.rs b.rv b.rs)).toArray = c := ⟨_, rfl⟩
  rw [e_ct3] at s_ct3 o_ct3 a_ct3 HGS2
  have E_ct3 := Lib.hid e_ct3
  clear e_ct3
  obtain ⟨J, hJ⟩ : ∃ J, joinE a b = J := ⟨_, rfl⟩
  rw [hJ] at hoJ hsJ haJ hb7 hsJv E_cm3 ⊢
  obtain ⟨cz, hcz⟩ : ∃ l, (entC zeroEnt).toArray = l := ⟨_, rfl⟩
  have HZZ : Hid (∀ W, (zeroValue 29).run Try.prog W = .ok (.agg cz) W) := fun W => by rw [← hcz]; exact zero_ent W
  rw [hcz] at hoJ
  have HA := Lib.hid ha
  have HB := Lib.hid hb
  obtain ⟨F1, hF1⟩ : ∃ l, (sealSig a.fz a.fs b.fz b.fs) = l := ⟨_, rfl⟩
  obtain ⟨F2, hF2⟩ : ∃ l, (sealSig a.rv a.rs b.rv b.rs) = l := ⟨_, rfl⟩
  obtain ⟨G1, hG1⟩ : ∃ l, (a.fz || b.fz) = l := ⟨_, rfl⟩
  obtain ⟨G2, hG2⟩ : ∃ l, (a.rv || b.rv) = l := ⟨_, rfl⟩
  rw [hF1] at hb7 hsJf E_cs3
  rw [hF2] at hb7 hsJr E_ct3
  rw [hG1] at hb7 E_cs3
  rw [hG2] at hb7 E_ct3
  obtain ⟨la, hla⟩ : ∃ l, crtC a.crt = l := ⟨_, rfl⟩
  rw [hla] at hq hsa hb7
  have Lla := Lib.hid hla
  clear hla
  obtain ⟨lb, hlb⟩ : ∃ l, crtC b.crt = l := ⟨_, rfl⟩
  rw [hlb] at hq hsb
  have Llb := Lib.hid hlb
  clear hlb
  obtain ⟨va, hva⟩ : ∃ l, a.val.map U8 = l := ⟨_, rfl⟩
  rw [hva] at hsva hbm1
  have Lva := Lib.hid hva
  clear hva
  obtain ⟨vb, hvb⟩ : ∃ l, b.val.map U8 = l := ⟨_, rfl⟩
  rw [hvb] at hsvb hbm2
  have Lvb := Lib.hid hvb
  clear hvb
  obtain ⟨fa, hfa⟩ : ∃ l, a.fs.map U8 = l := ⟨_, rfl⟩
  rw [hfa] at hsfa HC1
  have Lfa := Lib.hid hfa
  clear hfa
  obtain ⟨fb, hfb⟩ : ∃ l, b.fs.map U8 = l := ⟨_, rfl⟩
  rw [hfb] at hsfb HC2
  have Lfb := Lib.hid hfb
  clear hfb
  obtain ⟨ra, hra⟩ : ∃ l, a.rs.map U8 = l := ⟨_, rfl⟩
  rw [hra] at hsra HC3
  have Lra := Lib.hid hra
  clear hra
  obtain ⟨rb, hrb⟩ : ∃ l, b.rs.map U8 = l := ⟨_, rfl⟩
  rw [hrb] at hsrb HC4
  have Lrb := Lib.hid hrb
  clear hrb
  obtain ⟨vJ, hvJ⟩ : ∃ l, J.val.map U8 = l := ⟨_, rfl⟩
  rw [hvJ] at hsJv hb7
  have LvJ := Lib.hid hvJ
  clear hvJ
  obtain ⟨fJ, hfJ⟩ : ∃ l, F1.map U8 = l := ⟨_, rfl⟩
  rw [hfJ] at hsJf hb7
  have LfJ := Lib.hid hfJ
  clear hfJ
  obtain ⟨rJ, hrJ⟩ : ∃ l, F2.map U8 = l := ⟨_, rfl⟩
  rw [hrJ] at hsJr hb7
  have LrJ := Lib.hid hrJ
  clear hrJ
  obtain ⟨ca, hca⟩ : ∃ l, (entC a).toArray = l := ⟨_, rfl⟩
  obtain ⟨cb, hcb⟩ : ∃ l, (entC b).toArray = l := ⟨_, rfl⟩
  obtain ⟨cJ, hcJ⟩ : ∃ l, (entC J).toArray = l := ⟨_, rfl⟩
  rw [hcJ] at hoJ hsJ haJ hb7 ⊢
  rw [hca, hcb]
  have HCA := Lib.hid hca
  have HCB := Lib.hid hcb
  clear ha hb hc hca hcb hcJ hcz hF1 hF2 hG1 hG2 hJ z oJ hJE hz1 hz2 hz3 hz4 hl1 hl2 hl3
  go_enter Try.func5, Try.ntmps5
  go_wp2_with (with_reducible refine arm_box (by with_unfolding_all exact rfl) ?_)
  intro b2 w2 hb2 k2 hU2 hz2
  change w2.heap[b2]? = some (.cells ca 29 (0, 0)) at k2
  go_wp2_with (with_reducible refine arm_box (by with_unfolding_all exact rfl) ?_)
  intro b3 w3 hb3 k3 hU3 hz3
  change w3.heap[b3]? = some (.cells cb 29 (0, 0)) at k3
  go_wp2_with (with_reducible refine arm_alloc (HZZ.out _) ?_)
  intro b4 w4 hb4 k4 hU4 hz4
  change w4.heap[b4]? = some (.cells cz 29 (0, 0)) at k4
  have k2' := hU4.heap (hU3.heap k2 (by simp)) (by simp)
  have k3' := hU4.heap k3 (by simp)
  clear k2 k3
  have k2 : EntAt w4 b2 a := by unfold EntAt; rw [HCA.out]; exact k2'
  have k3 : EntAt w4 b3 b := by unfold EntAt; rw [HCB.out]; exact k3'
  have hV4 := (hU2.trans hU3).trans hU4
  have hl4 : w.heap.size ≤ b4 := by have h1 := hU2.size; have h2 := hU3.size; omega
  clear k2' k3' hb2 hU2 hz2 hb3 hU3 hz3 hb4 hU4 hz4
  have r2 := k2.crt HA.out
  have r3 := k3.crt HB.out
  rw [Lla.out] at r2
  rw [Llb.out] at r3
  go_upto_region 3 with (first
    | (with_reducible refine arm_load_mid (g := b2) (k := 0) (by with_unfolding_all exact rfl) r2 Try.underlying27 rfl hsa ?_)
    | (with_reducible refine arm_load_mid (g := b3) (k := 0) (by with_unfolding_all exact rfl) r3 Try.underlying27 rfl hsb ?_))
  clear r2 r3 hq
  have HK4 := Lib.hid k4
  clear k4
  have m24 := k2
  have m34 := k3
  have HQ1 : Hid (∀ W, Upd [] w4 W → W.cell? ⟨b2, 99, none⟩ = some (.int .i64 a.idx)) := fun W hW => (m24.upd hW (by simp)).idx HA.out
  have HQ2 : Hid (∀ W, Upd [] w4 W → W.cell? ⟨b3, 99, none⟩ = some (.int .i64 b.idx)) := fun W hW => (m34.upd hW (by simp)).idx HB.out
  have HR1 : Hid (∀ W, Upd [] w4 W → W.rangeAt b2 100 va) := fun W hW => by rw [← Lva.out]; exact (m24.upd hW (by simp)).val HA.out
  have HR2 : Hid (∀ W, Upd [] w4 W → W.rangeAt b3 100 vb) := fun W hW => by rw [← Lvb.out]; exact (m34.upd hW (by simp)).val HB.out
  clear k2 k3
  go_cut [6, 7] (fun sA sB wx => ∃ gA gB, sA = .pointer (some ⟨gA, 0, none⟩) ∧ sB = .pointer (some ⟨gB, 0, none⟩) ∧ wx.heap[gA]? = some (.cells cm1 42 (0, 0)) ∧ wx.heap[gB]? = some (.cells cm2 42 (0, 0)) ∧ Upd [] w4 wx)
  case first =>
    refine wp_region_orders [0, 1, 2, 3, 4, 5, 6, 7, 8, 9] (.step 10 (.step 11 (.step 12 (.step 13 .none .none) .none) .none) (.step 11 (.step 10 (.step 12 (.step 13 .none .none) .none) .none) .none)) (Upd [] w4) (by kernel_rfl) (by kernel_rfl) ((Upd.refl _ _).drew) ?_
    refine takeO_cons _ (.pointer (some ⟨b2, 99, none⟩)) rfl (by kernel_rfl) (fun w _ => by kernel_rfl) ?_
    refine takeO_cons _ (.int .i64 a.idx) rfl (by kernel_rfl) (yields_cell (by kernel_rfl) HQ1.out Try.underlying3 rfl) ?_
    refine takeO_cons _ (.pointer (some ⟨b2, 100, none⟩)) rfl (by kernel_rfl) (fun w _ => by kernel_rfl) ?_
    refine takeO_cons _ (.agg va.toArray) rfl (by kernel_rfl) (yields_mid (by kernel_rfl) HR1.out Try.underlying23 rfl hsva) ?_
    refine takeO_cons _ (.agg cm1) rfl (by kernel_rfl) (yields_build2 (by kernel_rfl) (by kernel_rfl) hbm1) ?_
    refine takeO_cons _ (.pointer (some ⟨b3, 99, none⟩)) rfl (by kernel_rfl) (fun w _ => by kernel_rfl) ?_
    refine takeO_cons _ (.int .i64 b.idx) rfl (by kernel_rfl) (yields_cell (by kernel_rfl) HQ2.out Try.underlying3 rfl) ?_
    refine takeO_cons _ (.pointer (some ⟨b3, 100, none⟩)) rfl (by kernel_rfl) (fun w _ => by kernel_rfl) ?_
    refine takeO_cons _ (.agg vb.toArray) rfl (by kernel_rfl) (yields_mid (by kernel_rfl) HR2.out Try.underlying23 rfl hsvb) ?_
    refine takeO_cons _ (.agg cm2) rfl (by kernel_rfl) (yields_build2 (by kernel_rfl) (by kernel_rfl) hbm2) ?_
    refine takeO_nil (by simp [Ord.first]) ?_
    refine ordP_step _ (by simp only [List.getElem?_toArray, List.getElem?_cons_succ, List.getElem?_cons_zero]; rfl) ?_ ?_
    · with_reducible refine arm_alloc (zero_mark _) ?_
      intro g101 x101 hb101 kN101 hU101 hz101
      change x101.heap[g101]? = some (.cells zmark 42 (0, 0)) at kN101
      have hT101 := ((Upd.refl [] w4).drew).trans hU101
      have hl101 := ((Upd.refl [] w4).drew).size
      rw [hb101] at hl101
      clear hb101 hz101
      go_wp2_with (fail)
      refine ord_more (by simp [Ord.first]) hT101 ?_
      refine ordP_step _ (by simp only [List.getElem?_toArray, List.getElem?_cons_succ, List.getElem?_cons_zero]; rfl) ?_ ordP_none
      with_reducible refine arm_alloc (zero_mark _) ?_
      intro g102 x102 hb102 kN102 hU102 hz102
      change x102.heap[g102]? = some (.cells zmark 42 (0, 0)) at kN102
      have hT102 := hT101.trans hU102
      have hl102 := hT101.size
      rw [hb102] at hl102
      have hn102_p : g101 ≠ g102 := by have := lt_of_heap kN101; omega
      clear hb102 hz102
      have h102_p := hU102.heap kN101 (by simp)
      go_wp2_with (fail)
      refine ord_more (by simp [Ord.first]) hT102 ?_
      refine ordP_step _ (by simp only [List.getElem?_toArray, List.getElem?_cons_succ, List.getElem?_cons_zero]; rfl) ?_ ordP_none
      with_reducible refine arm_store (by kernel_rfl) (by kernel_rfl) h102_p s_cm1 o_cm1 a_cm1 ?_
      intro x103 kN103 hX103 hz103
      have hT103 := hT102.trans' hX103 (fun i hm hi => by have := hl101; simp at hm; omega)
      have h103_q := hX103.heap kN102 (by simp; omega)
      go_wp2_with (fail)
      refine ord_more (by simp [Ord.first]) hT103 ?_
      refine ordP_step _ (by simp only [List.getElem?_toArray, List.getElem?_cons_succ, List.getElem?_cons_zero]; rfl) ?_ ordP_none
      with_reducible refine arm_store (by kernel_rfl) (by kernel_rfl) h103_q s_cm2 o_cm2 a_cm2 ?_
      intro x104 kN104 hX104 hz104
      have hT104 := hT103.trans' hX104 (fun i hm hi => by have := hl102; simp at hm; omega)
      have h104_p := hX104.heap kN103 (by simp; omega)
      go_wp2_with (fail)
      refine ord_last hT104 ?_
      show Exit.then _ _ Exit.normal _ _
      go_wp2_with fail
      go_simp
      go_meet
      exact ⟨_, _, rfl, rfl, h104_p, kN104, hT104⟩
    refine ordP_step _ (by simp only [List.getElem?_toArray, List.getElem?_cons_succ, List.getElem?_cons_zero]; rfl) ?_ ordP_none
    with_reducible refine arm_alloc (zero_mark _) ?_
    intro g105 x105 hb105 kN105 hU105 hz105
    change x105.heap[g105]? = some (.cells zmark 42 (0, 0)) at kN105
    have hT105 := ((Upd.refl [] w4).drew).trans hU105
    have hl105 := ((Upd.refl [] w4).drew).size
    rw [hb105] at hl105
    clear hb105 hz105
    go_wp2_with (fail)
    refine ord_more (by simp [Ord.first]) hT105 ?_
    refine ordP_step _ (by simp only [List.getElem?_toArray, List.getElem?_cons_succ, List.getElem?_cons_zero]; rfl) ?_ ordP_none
    with_reducible refine arm_alloc (zero_mark _) ?_
    intro g106 x106 hb106 kN106 hU106 hz106
    change x106.heap[g106]? = some (.cells zmark 42 (0, 0)) at kN106
    have hT106 := hT105.trans hU106
    have hl106 := hT105.size
    rw [hb106] at hl106
    have hn106_q : g105 ≠ g106 := by have := lt_of_heap kN105; omega
    clear hb106 hz106
    have h106_q := hU106.heap kN105 (by simp)
    go_wp2_with (fail)
    refine ord_more (by simp [Ord.first]) hT106 ?_
    refine ordP_step _ (by simp only [List.getElem?_toArray, List.getElem?_cons_succ, List.getElem?_cons_zero]; rfl) ?_ ordP_none
    with_reducible refine arm_store (by kernel_rfl) (by kernel_rfl) kN106 s_cm1 o_cm1 a_cm1 ?_
    intro x107 kN107 hX107 hz107
    have hT107 := hT106.trans' hX107 (fun i hm hi => by have := hl106; simp at hm; omega)
    have h107_q := hX107.heap h106_q (by simp; omega)
    go_wp2_with (fail)
    refine ord_more (by simp [Ord.first]) hT107 ?_
    refine ordP_step _ (by simp only [List.getElem?_toArray, List.getElem?_cons_succ, List.getElem?_cons_zero]; rfl) ?_ ordP_none
    with_reducible refine arm_store (by kernel_rfl) (by kernel_rfl) h107_q s_cm2 o_cm2 a_cm2 ?_
    intro x108 kN108 hX108 hz108
    have hT108 := hT107.trans' hX108 (fun i hm hi => by have := hl105; simp at hm; omega)
    have h108_p := hX108.heap kN107 (by simp; omega)
    go_wp2_with (fail)
    refine ord_last hT108 ?_
    show Exit.then _ _ Exit.normal _ _
    go_wp2_with fail
    go_simp
    go_meet
    exact ⟨_, _, rfl, rfl, h108_p, kN108, hT108⟩
  case rest =>
    obtain ⟨gA, gB, rfl, rfl, kA, kB, hT5⟩ := hcut
    have m25 := m24.upd hT5 (by simp)
    have m35 := m34.upd hT5 (by simp)
    have hV5 := hV4.trans hT5
    have k4 := HK4.out.trans rfl
    have k4' := hT5.heap k4 (by simp)
    clear k4
    have k4 := k4'
    clear k4'
    clear m24 m34 HQ1 HQ2 HR1 HR2 hV4
    go_wp2_with (first
        | (with_reducible refine arm_load (by with_unfolding_all exact rfl) kA Try.underlying42 (by with_unfolding_all exact rfl) s_cm1 ?_)
        | (with_reducible refine arm_load (by with_unfolding_all exact rfl) kB Try.underlying42 (by with_unfolding_all exact rfl) s_cm2 ?_)
        )
    with_reducible refine (HGR.out _).mono ?_
    rintro e y6 ⟨rfl, hU6⟩
    go_wp2_with (with_reducible refine arm_alloc (zero_mark _) ?_)
    intro b8 z6 hb6 kz6 hW6 hz6
    change z6.heap[b8]? = some (.cells zmark 42 (0, 0)) at kz6
    go_wp2_with (with_reducible refine arm_store (by with_unfolding_all exact rfl) (by with_unfolding_all exact rfl) kz6 s_cm3 o_cm3 a_cm3 ?_)
    intro w6 k_b8 hX6 hzz6
    have hT6 := hU6.trans (hW6.fresh hb6 hX6)
    have m26 := m25.upd hT6 (by simp)
    have m36 := m35.upd hT6 (by simp)
    have hV6 := hV5.trans hT6
    clear kA kB hU6 hb6 kz6 hW6 hz6 hX6 hzz6 m25 m35 hV5
    have k4' := hT6.heap k4 (by simp)
    clear k4
    have k4 := k4'
    clear k4'
    clear hT6
    have HQ1 : Hid (∀ W, Upd [] w6 W → W.cell? ⟨b2, 132, none⟩ = some (.bool a.fz)) := fun W hW => (m26.upd hW (by simp)).fz HA.out
    have HQ2 : Hid (∀ W, Upd [] w6 W → W.cell? ⟨b3, 132, none⟩ = some (.bool b.fz)) := fun W hW => (m36.upd hW (by simp)).fz HB.out
    have HR1 : Hid (∀ W, Upd [] w6 W → W.rangeAt b2 133 fa) := fun W hW => by rw [← Lfa.out]; exact (m26.upd hW (by simp)).fs HA.out
    have HR2 : Hid (∀ W, Upd [] w6 W → W.rangeAt b3 133 fb) := fun W hW => by rw [← Lfb.out]; exact (m36.upd hW (by simp)).fs HB.out
    go_upto_region 5 with (fail)
    go_simp
    go_cut [9, 10] (fun sA sB wx => ∃ gA gB, sA = .pointer (some ⟨gA, 0, none⟩) ∧ sB = .pointer (some ⟨gB, 0, none⟩) ∧ wx.heap[gA]? = some (.cells cs1 46 (0, 0)) ∧ wx.heap[gB]? = some (.cells cs2 46 (0, 0)) ∧ Upd [] w6 wx)
    case first =>
      refine wp_region_orders [0, 1, 2, 3, 5, 6, 7, 8] (.step 4 (.step 9 (.step 10 (.step 11 (.step 12 (.step 13 .none .none) .none) .none) (.step 11 (.step 10 (.step 12 (.step 13 .none .none) .none) .none) .none)) (.step 10 (.step 9 (.step 11 (.step 12 (.step 13 .none .none) .none) .none) (.step 11 (.step 9 (.step 12 (.step 13 .none .none) .none) .none) .none)) (.step 11 (.step 9 (.step 10 (.step 12 (.step 13 .none .none) .none) .none) (.step 10 (.step 9 (.step 12 (.step 13 .none .none) .none) .none) .none)) .none))) (.step 10 (.step 4 (.step 9 (.step 11 (.step 12 (.step 13 .none .none) .none) .none) (.step 11 (.step 9 (.step 12 (.step 13 .none .none) .none) .none) .none)) (.step 11 (.step 4 (.step 9 (.step 12 (.step 13 .none .none) .none) .none) .none) .none)) (.step 11 (.step 4 (.step 9 (.step 10 (.step 12 (.step 13 .none .none) .none) .none) (.step 10 (.step 9 (.step 12 (.step 13 .none .none) .none) .none) .none)) (.step 10 (.step 4 (.step 9 (.step 12 (.step 13 .none .none) .none) .none) .none) .none)) .none))) (Upd [] w6) (by kernel_rfl) (by kernel_rfl) ((Upd.refl _ _).drew) ?_
      refine takeO_cons _ (.pointer (some ⟨b2, 132, none⟩)) rfl (by kernel_rfl) (fun w _ => by kernel_rfl) ?_
      refine takeO_cons _ (.bool a.fz) rfl (by kernel_rfl) (yields_cell (by kernel_rfl) HQ1.out Try.underlying4 rfl) ?_
      refine takeO_cons _ (.pointer (some ⟨b2, 133, none⟩)) rfl (by kernel_rfl) (fun w _ => by kernel_rfl) ?_
      refine takeO_cons _ (.agg fa.toArray) rfl (by kernel_rfl) (yields_mid (by kernel_rfl) HR1.out Try.underlying25 rfl hsfa) ?_
      refine takeO_cons _ (.pointer (some ⟨b3, 132, none⟩)) rfl (by kernel_rfl) (fun w _ => by kernel_rfl) ?_
      refine takeO_cons _ (.bool b.fz) rfl (by kernel_rfl) (yields_cell (by kernel_rfl) HQ2.out Try.underlying4 rfl) ?_
      refine takeO_cons _ (.pointer (some ⟨b3, 133, none⟩)) rfl (by kernel_rfl) (fun w _ => by kernel_rfl) ?_
      refine takeO_cons _ (.agg fb.toArray) rfl (by kernel_rfl) (yields_mid (by kernel_rfl) HR2.out Try.underlying25 rfl hsfb) ?_
      refine takeO_nil (by simp [Ord.first]) ?_
      refine ordP_step _ (by simp only [List.getElem?_toArray, List.getElem?_cons_succ, List.getElem?_cons_zero]; rfl) ?_ ?_
      · go_wp2_with (fail)
        with_reducible refine (HC1.out _).mono ?_
        rintro e x109 ⟨rfl, hU109⟩
        have hT109 := ((Upd.refl [] w6).drew).trans hU109
        go_wp2_with (fail)
        refine ord_more (by simp [Ord.first]) hT109 ?_
        refine ordP_step _ (by simp only [List.getElem?_toArray, List.getElem?_cons_succ, List.getElem?_cons_zero]; rfl) ?_ ?_
        · go_wp2_with (fail)
          with_reducible refine (HC2.out _).mono ?_
          rintro e x110 ⟨rfl, hU110⟩
          have hT110 := hT109.trans hU110
          go_wp2_with (fail)
          refine ord_more (by simp [Ord.first]) hT110 ?_
          refine ordP_step _ (by simp only [List.getElem?_toArray, List.getElem?_cons_succ, List.getElem?_cons_zero]; rfl) ?_ ?_
          · with_reducible refine arm_alloc (zero_seal _) ?_
            intro g111 x111 hb111 kN111 hU111 hz111
            change x111.heap[g111]? = some (.cells zseal 46 (0, 0)) at kN111
            have hT111 := hT110.trans hU111
            have hl111 := hT110.size
            rw [hb111] at hl111
            clear hb111 hz111
            go_wp2_with (fail)
            refine ord_more (by simp [Ord.first]) hT111 ?_
            refine ordP_step _ (by simp only [List.getElem?_toArray, List.getElem?_cons_succ, List.getElem?_cons_zero]; rfl) ?_ ordP_none
            with_reducible refine arm_alloc (zero_seal _) ?_
            intro g112 x112 hb112 kN112 hU112 hz112
            change x112.heap[g112]? = some (.cells zseal 46 (0, 0)) at kN112
            have hT112 := hT111.trans hU112
            have hl112 := hT111.size
            rw [hb112] at hl112
            have hn112_p : g111 ≠ g112 := by have := lt_of_heap kN111; omega
            clear hb112 hz112
            have h112_p := hU112.heap kN111 (by simp)
            go_wp2_with (fail)
            refine ord_more (by simp [Ord.first]) hT112 ?_
            refine ordP_step _ (by simp only [List.getElem?_toArray, List.getElem?_cons_succ, List.getElem?_cons_zero]; rfl) ?_ ordP_none
            with_reducible refine arm_store (by kernel_rfl) (by kernel_rfl) h112_p s_cs1 o_cs1 a_cs1 ?_
            intro x113 kN113 hX113 hz113
            have hT113 := hT112.trans' hX113 (fun i hm hi => by have := hl111; simp at hm; omega)
            have h113_q := hX113.heap kN112 (by simp; omega)
            go_wp2_with (fail)
            refine ord_more (by simp [Ord.first]) hT113 ?_
            refine ordP_step _ (by simp only [List.getElem?_toArray, List.getElem?_cons_succ, List.getElem?_cons_zero]; rfl) ?_ ordP_none
            with_reducible refine arm_store (by kernel_rfl) (by kernel_rfl) h113_q s_cs2 o_cs2 a_cs2 ?_
            intro x114 kN114 hX114 hz114
            have hT114 := hT113.trans' hX114 (fun i hm hi => by have := hl112; simp at hm; omega)
            have h114_p := hX114.heap kN113 (by simp; omega)
            go_wp2_with (fail)
            refine ord_last hT114 ?_
            show Exit.then _ _ Exit.normal _ _
            go_wp2_with fail
            go_simp
            go_meet
            exact ⟨_, _, rfl, rfl, h114_p, kN114, hT114⟩
          refine ordP_step _ (by simp only [List.getElem?_toArray, List.getElem?_cons_succ, List.getElem?_cons_zero]; rfl) ?_ ordP_none
          with_reducible refine arm_alloc (zero_seal _) ?_
          intro g115 x115 hb115 kN115 hU115 hz115
          change x115.heap[g115]? = some (.cells zseal 46 (0, 0)) at kN115
          have hT115 := hT110.trans hU115
          have hl115 := hT110.size
          rw [hb115] at hl115
          clear hb115 hz115
          go_wp2_with (fail)
          refine ord_more (by simp [Ord.first]) hT115 ?_
          refine ordP_step _ (by simp only [List.getElem?_toArray, List.getElem?_cons_succ, List.getElem?_cons_zero]; rfl) ?_ ordP_none
          with_reducible refine arm_alloc (zero_seal _) ?_
          intro g116 x116 hb116 kN116 hU116 hz116
          change x116.heap[g116]? = some (.cells zseal 46 (0, 0)) at kN116
          have hT116 := hT115.trans hU116
          have hl116 := hT115.size
          rw [hb116] at hl116
          have hn116_q : g115 ≠ g116 := by have := lt_of_heap kN115; omega
          clear hb116 hz116
          have h116_q := hU116.heap kN115 (by simp)
          go_wp2_with (fail)
          refine ord_more (by simp [Ord.first]) hT116 ?_
          refine ordP_step _ (by simp only [List.getElem?_toArray, List.getElem?_cons_succ, List.getElem?_cons_zero]; rfl) ?_ ordP_none
          with_reducible refine arm_store (by kernel_rfl) (by kernel_rfl) kN116 s_cs1 o_cs1 a_cs1 ?_
          intro x117 kN117 hX117 hz117
          have hT117 := hT116.trans' hX117 (fun i hm hi => by have := hl116; simp at hm; omega)
          have h117_q := hX117.heap h116_q (by simp; omega)
          go_wp2_with (fail)
          refine ord_more (by simp [Ord.first]) hT117 ?_
          refine ordP_step _ (by simp only [List.getElem?_toArray, List.getElem?_cons_succ, List.getElem?_cons_zero]; rfl) ?_ ordP_none
          with_reducible refine arm_store (by kernel_rfl) (by kernel_rfl) h117_q s_cs2 o_cs2 a_cs2 ?_
          intro x118 kN118 hX118 hz118
          have hT118 := hT117.trans' hX118 (fun i hm hi => by have := hl115; simp at hm; omega)
          have h118_p := hX118.heap kN117 (by simp; omega)
          go_wp2_with (fail)
          refine ord_last hT118 ?_
          show Exit.then _ _ Exit.normal _ _
          go_wp2_with fail
          go_simp
          go_meet
          exact ⟨_, _, rfl, rfl, h118_p, kN118, hT118⟩
        refine ordP_step _ (by simp only [List.getElem?_toArray, List.getElem?_cons_succ, List.getElem?_cons_zero]; rfl) ?_ ?_
        · with_reducible refine arm_alloc (zero_seal _) ?_
          intro g119 x119 hb119 kN119 hU119 hz119
          change x119.heap[g119]? = some (.cells zseal 46 (0, 0)) at kN119
          have hT119 := hT109.trans hU119
          have hl119 := hT109.size
          rw [hb119] at hl119
          clear hb119 hz119
          go_wp2_with (fail)
          refine ord_more (by simp [Ord.first]) hT119 ?_
          refine ordP_step _ (by simp only [List.getElem?_toArray, List.getElem?_cons_succ, List.getElem?_cons_zero]; rfl) ?_ ?_
          · go_wp2_with (fail)
            with_reducible refine (HC2.out _).mono ?_
            rintro e x120 ⟨rfl, hU120⟩
            have hT120 := hT119.trans hU120
            have h120_p := hU120.heap kN119 (by simp)
            go_wp2_with (fail)
            refine ord_more (by simp [Ord.first]) hT120 ?_
            refine ordP_step _ (by simp only [List.getElem?_toArray, List.getElem?_cons_succ, List.getElem?_cons_zero]; rfl) ?_ ordP_none
            with_reducible refine arm_alloc (zero_seal _) ?_
            intro g121 x121 hb121 kN121 hU121 hz121
            change x121.heap[g121]? = some (.cells zseal 46 (0, 0)) at kN121
            have hT121 := hT120.trans hU121
            have hl121 := hT120.size
            rw [hb121] at hl121
            have hn121_p : g119 ≠ g121 := by have := lt_of_heap h120_p; omega
            clear hb121 hz121
            have h121_p := hU121.heap h120_p (by simp)
            go_wp2_with (fail)
            refine ord_more (by simp [Ord.first]) hT121 ?_
            refine ordP_step _ (by simp only [List.getElem?_toArray, List.getElem?_cons_succ, List.getElem?_cons_zero]; rfl) ?_ ordP_none
            with_reducible refine arm_store (by kernel_rfl) (by kernel_rfl) h121_p s_cs1 o_cs1 a_cs1 ?_
            intro x122 kN122 hX122 hz122
            have hT122 := hT121.trans' hX122 (fun i hm hi => by have := hl119; simp at hm; omega)
            have h122_q := hX122.heap kN121 (by simp; omega)
            go_wp2_with (fail)
            refine ord_more (by simp [Ord.first]) hT122 ?_
            refine ordP_step _ (by simp only [List.getElem?_toArray, List.getElem?_cons_succ, List.getElem?_cons_zero]; rfl) ?_ ordP_none
            with_reducible refine arm_store (by kernel_rfl) (by kernel_rfl) h122_q s_cs2 o_cs2 a_cs2 ?_
            intro x123 kN123 hX123 hz123
            have hT123 := hT122.trans' hX123 (fun i hm hi => by have := hl121; simp at hm; omega)
            have h123_p := hX123.heap kN122 (by simp; omega)
            go_wp2_with (fail)
            refine ord_last hT123 ?_
            show Exit.then _ _ Exit.normal _ _
            go_wp2_with fail
            go_simp
            go_meet
            exact ⟨_, _, rfl, rfl, h123_p, kN123, hT123⟩
          refine ordP_step _ (by simp only [List.getElem?_toArray, List.getElem?_cons_succ, List.getElem?_cons_zero]; rfl) ?_ ordP_none
          with_reducible refine arm_alloc (zero_seal _) ?_
          intro g124 x124 hb124 kN124 hU124 hz124
          change x124.heap[g124]? = some (.cells zseal 46 (0, 0)) at kN124
          have hT124 := hT119.trans hU124
          have hl124 := hT119.size
          rw [hb124] at hl124
          have hn124_p : g119 ≠ g124 := by have := lt_of_heap kN119; omega
          clear hb124 hz124
          have h124_p := hU124.heap kN119 (by simp)
          go_wp2_with (fail)
          refine ord_more (by simp [Ord.first]) hT124 ?_
          refine ordP_step _ (by simp only [List.getElem?_toArray, List.getElem?_cons_succ, List.getElem?_cons_zero]; rfl) ?_ ordP_none
          go_wp2_with (fail)
          with_reducible refine (HC2.out _).mono ?_
          rintro e x125 ⟨rfl, hU125⟩
          have hT125 := hT124.trans hU125
          have h125_p := hU125.heap h124_p (by simp)
          have h125_q := hU125.heap kN124 (by simp)
          go_wp2_with (fail)
          refine ord_more (by simp [Ord.first]) hT125 ?_
          refine ordP_step _ (by simp only [List.getElem?_toArray, List.getElem?_cons_succ, List.getElem?_cons_zero]; rfl) ?_ ordP_none
          with_reducible refine arm_store (by kernel_rfl) (by kernel_rfl) h125_p s_cs1 o_cs1 a_cs1 ?_
          intro x126 kN126 hX126 hz126
          have hT126 := hT125.trans' hX126 (fun i hm hi => by have := hl119; simp at hm; omega)
          have h126_q := hX126.heap h125_q (by simp; omega)
          go_wp2_with (fail)
          refine ord_more (by simp [Ord.first]) hT126 ?_
          refine ordP_step _ (by simp only [List.getElem?_toArray, List.getElem?_cons_succ, List.getElem?_cons_zero]; rfl) ?_ ordP_none
          with_reducible refine arm_store (by kernel_rfl) (by kernel_rfl) h126_q s_cs2 o_cs2 a_cs2 ?_
          intro x127 kN127 hX127 hz127
          have hT127 := hT126.trans' hX127 (fun i hm hi => by have := hl124; simp at hm; omega)
          have h127_p := hX127.heap kN126 (by simp; omega)
          go_wp2_with (fail)
          refine ord_last hT127 ?_
          show Exit.then _ _ Exit.normal _ _
          go_wp2_with fail
          go_simp
          go_meet
          exact ⟨_, _, rfl, rfl, h127_p, kN127, hT127⟩
        refine ordP_step _ (by simp only [List.getElem?_toArray, List.getElem?_cons_succ, List.getElem?_cons_zero]; rfl) ?_ ordP_none
        with_reducible refine arm_alloc (zero_seal _) ?_
        intro g128 x128 hb128 kN128 hU128 hz128
        change x128.heap[g128]? = some (.cells zseal 46 (0, 0)) at kN128
        have hT128 := hT109.trans hU128
        have hl128 := hT109.size
        rw [hb128] at hl128
        clear hb128 hz128
        go_wp2_with (fail)
        refine ord_more (by simp [Ord.first]) hT128 ?_
        refine ordP_step _ (by simp only [List.getElem?_toArray, List.getElem?_cons_succ, List.getElem?_cons_zero]; rfl) ?_ ?_
        · go_wp2_with (fail)
          with_reducible refine (HC2.out _).mono ?_
          rintro e x129 ⟨rfl, hU129⟩
          have hT129 := hT128.trans hU129
          have h129_q := hU129.heap kN128 (by simp)
          go_wp2_with (fail)
          refine ord_more (by simp [Ord.first]) hT129 ?_
          refine ordP_step _ (by simp only [List.getElem?_toArray, List.getElem?_cons_succ, List.getElem?_cons_zero]; rfl) ?_ ordP_none
          with_reducible refine arm_alloc (zero_seal _) ?_
          intro g130 x130 hb130 kN130 hU130 hz130
          change x130.heap[g130]? = some (.cells zseal 46 (0, 0)) at kN130
          have hT130 := hT129.trans hU130
          have hl130 := hT129.size
          rw [hb130] at hl130
          have hn130_q : g128 ≠ g130 := by have := lt_of_heap h129_q; omega
          clear hb130 hz130
          have h130_q := hU130.heap h129_q (by simp)
          go_wp2_with (fail)
          refine ord_more (by simp [Ord.first]) hT130 ?_
          refine ordP_step _ (by simp only [List.getElem?_toArray, List.getElem?_cons_succ, List.getElem?_cons_zero]; rfl) ?_ ordP_none
          with_reducible refine arm_store (by kernel_rfl) (by kernel_rfl) kN130 s_cs1 o_cs1 a_cs1 ?_
          intro x131 kN131 hX131 hz131
          have hT131 := hT130.trans' hX131 (fun i hm hi => by have := hl130; simp at hm; omega)
          have h131_q := hX131.heap h130_q (by simp; omega)
          go_wp2_with (fail)
          refine ord_more (by simp [Ord.first]) hT131 ?_
          refine ordP_step _ (by simp only [List.getElem?_toArray, List.getElem?_cons_succ, List.getElem?_cons_zero]; rfl) ?_ ordP_none
          with_reducible refine arm_store (by kernel_rfl) (by kernel_rfl) h131_q s_cs2 o_cs2 a_cs2 ?_
          intro x132 kN132 hX132 hz132
          have hT132 := hT131.trans' hX132 (fun i hm hi => by have := hl128; simp at hm; omega)
          have h132_p := hX132.heap kN131 (by simp; omega)
          go_wp2_with (fail)
          refine ord_last hT132 ?_
          show Exit.then _ _ Exit.normal _ _
          go_wp2_with fail
          go_simp
          go_meet
          exact ⟨_, _, rfl, rfl, h132_p, kN132, hT132⟩
        refine ordP_step _ (by simp only [List.getElem?_toArray, List.getElem?_cons_succ, List.getElem?_cons_zero]; rfl) ?_ ordP_none
        with_reducible refine arm_alloc (zero_seal _) ?_
        intro g133 x133 hb133 kN133 hU133 hz133
        change x133.heap[g133]? = some (.cells zseal 46 (0, 0)) at kN133
        have hT133 := hT128.trans hU133
        have hl133 := hT128.size
        rw [hb133] at hl133
        have hn133_q : g128 ≠ g133 := by have := lt_of_heap kN128; omega
        clear hb133 hz133
        have h133_q := hU133.heap kN128 (by simp)
        go_wp2_with (fail)
        refine ord_more (by simp [Ord.first]) hT133 ?_
        refine ordP_step _ (by simp only [List.getElem?_toArray, List.getElem?_cons_succ, List.getElem?_cons_zero]; rfl) ?_ ordP_none
        go_wp2_with (fail)
        with_reducible refine (HC2.out _).mono ?_
        rintro e x134 ⟨rfl, hU134⟩
        have hT134 := hT133.trans hU134
        have h134_q := hU134.heap h133_q (by simp)
        have h134_p := hU134.heap kN133 (by simp)
        go_wp2_with (fail)
        refine ord_more (by simp [Ord.first]) hT134 ?_
        refine ordP_step _ (by simp only [List.getElem?_toArray, List.getElem?_cons_succ, List.getElem?_cons_zero]; rfl) ?_ ordP_none
        with_reducible refine arm_store (by kernel_rfl) (by kernel_rfl) h134_p s_cs1 o_cs1 a_cs1 ?_
        intro x135 kN135 hX135 hz135
        have hT135 := hT134.trans' hX135 (fun i hm hi => by have := hl133; simp at hm; omega)
        have h135_q := hX135.heap h134_q (by simp; omega)
        go_wp2_with (fail)
        refine ord_more (by simp [Ord.first]) hT135 ?_
        refine ordP_step _ (by simp only [List.getElem?_toArray, List.getElem?_cons_succ, List.getElem?_cons_zero]; rfl) ?_ ordP_none
        with_reducible refine arm_store (by kernel_rfl) (by kernel_rfl) h135_q s_cs2 o_cs2 a_cs2 ?_
        intro x136 kN136 hX136 hz136
        have hT136 := hT135.trans' hX136 (fun i hm hi => by have := hl128; simp at hm; omega)
        have h136_p := hX136.heap kN135 (by simp; omega)
        go_wp2_with (fail)
        refine ord_last hT136 ?_
        show Exit.then _ _ Exit.normal _ _
        go_wp2_with fail
        go_simp
        go_meet
        exact ⟨_, _, rfl, rfl, h136_p, kN136, hT136⟩
      refine ordP_step _ (by simp only [List.getElem?_toArray, List.getElem?_cons_succ, List.getElem?_cons_zero]; rfl) ?_ ?_
      · with_reducible refine arm_alloc (zero_seal _) ?_
        intro g137 x137 hb137 kN137 hU137 hz137
        change x137.heap[g137]? = some (.cells zseal 46 (0, 0)) at kN137
        have hT137 := ((Upd.refl [] w6).drew).trans hU137
        have hl137 := ((Upd.refl [] w6).drew).size
        rw [hb137] at hl137
        clear hb137 hz137
        go_wp2_with (fail)
        refine ord_more (by simp [Ord.first]) hT137 ?_
        refine ordP_step _ (by simp only [List.getElem?_toArray, List.getElem?_cons_succ, List.getElem?_cons_zero]; rfl) ?_ ?_
        · go_wp2_with (fail)
          with_reducible refine (HC1.out _).mono ?_
          rintro e x138 ⟨rfl, hU138⟩
          have hT138 := hT137.trans hU138
          have h138_p := hU138.heap kN137 (by simp)
          go_wp2_with (fail)
          refine ord_more (by simp [Ord.first]) hT138 ?_
          refine ordP_step _ (by simp only [List.getElem?_toArray, List.getElem?_cons_succ, List.getElem?_cons_zero]; rfl) ?_ ?_
          · go_wp2_with (fail)
            with_reducible refine (HC2.out _).mono ?_
            rintro e x139 ⟨rfl, hU139⟩
            have hT139 := hT138.trans hU139
            have h139_p := hU139.heap h138_p (by simp)
            go_wp2_with (fail)
            refine ord_more (by simp [Ord.first]) hT139 ?_
            refine ordP_step _ (by simp only [List.getElem?_toArray, List.getElem?_cons_succ, List.getElem?_cons_zero]; rfl) ?_ ordP_none
            with_reducible refine arm_alloc (zero_seal _) ?_
            intro g140 x140 hb140 kN140 hU140 hz140
            change x140.heap[g140]? = some (.cells zseal 46 (0, 0)) at kN140
            have hT140 := hT139.trans hU140
            have hl140 := hT139.size
            rw [hb140] at hl140
            have hn140_p : g137 ≠ g140 := by have := lt_of_heap h139_p; omega
            clear hb140 hz140
            have h140_p := hU140.heap h139_p (by simp)
            go_wp2_with (fail)
            refine ord_more (by simp [Ord.first]) hT140 ?_
            refine ordP_step _ (by simp only [List.getElem?_toArray, List.getElem?_cons_succ, List.getElem?_cons_zero]; rfl) ?_ ordP_none
            with_reducible refine arm_store (by kernel_rfl) (by kernel_rfl) h140_p s_cs1 o_cs1 a_cs1 ?_
            intro x141 kN141 hX141 hz141
            have hT141 := hT140.trans' hX141 (fun i hm hi => by have := hl137; simp at hm; omega)
            have h141_q := hX141.heap kN140 (by simp; omega)
            go_wp2_with (fail)
            refine ord_more (by simp [Ord.first]) hT141 ?_
            refine ordP_step _ (by simp only [List.getElem?_toArray, List.getElem?_cons_succ, List.getElem?_cons_zero]; rfl) ?_ ordP_none
            with_reducible refine arm_store (by kernel_rfl) (by kernel_rfl) h141_q s_cs2 o_cs2 a_cs2 ?_
            intro x142 kN142 hX142 hz142
            have hT142 := hT141.trans' hX142 (fun i hm hi => by have := hl140; simp at hm; omega)
            have h142_p := hX142.heap kN141 (by simp; omega)
            go_wp2_with (fail)
            refine ord_last hT142 ?_
            show Exit.then _ _ Exit.normal _ _
            go_wp2_with fail
            go_simp
            go_meet
            exact ⟨_, _, rfl, rfl, h142_p, kN142, hT142⟩
          refine ordP_step _ (by simp only [List.getElem?_toArray, List.getElem?_cons_succ, List.getElem?_cons_zero]; rfl) ?_ ordP_none
          with_reducible refine arm_alloc (zero_seal _) ?_
          intro g143 x143 hb143 kN143 hU143 hz143
          change x143.heap[g143]? = some (.cells zseal 46 (0, 0)) at kN143
          have hT143 := hT138.trans hU143
          have hl143 := hT138.size
          rw [hb143] at hl143
          have hn143_p : g137 ≠ g143 := by have := lt_of_heap h138_p; omega
          clear hb143 hz143
          have h143_p := hU143.heap h138_p (by simp)
          go_wp2_with (fail)
          refine ord_more (by simp [Ord.first]) hT143 ?_
          refine ordP_step _ (by simp only [List.getElem?_toArray, List.getElem?_cons_succ, List.getElem?_cons_zero]; rfl) ?_ ordP_none
          go_wp2_with (fail)
          with_reducible refine (HC2.out _).mono ?_
          rintro e x144 ⟨rfl, hU144⟩
          have hT144 := hT143.trans hU144
          have h144_p := hU144.heap h143_p (by simp)
          have h144_q := hU144.heap kN143 (by simp)
          go_wp2_with (fail)
          refine ord_more (by simp [Ord.first]) hT144 ?_
          refine ordP_step _ (by simp only [List.getElem?_toArray, List.getElem?_cons_succ, List.getElem?_cons_zero]; rfl) ?_ ordP_none
          with_reducible refine arm_store (by kernel_rfl) (by kernel_rfl) h144_p s_cs1 o_cs1 a_cs1 ?_
          intro x145 kN145 hX145 hz145
          have hT145 := hT144.trans' hX145 (fun i hm hi => by have := hl137; simp at hm; omega)
          have h145_q := hX145.heap h144_q (by simp; omega)
          go_wp2_with (fail)
          refine ord_more (by simp [Ord.first]) hT145 ?_
          refine ordP_step _ (by simp only [List.getElem?_toArray, List.getElem?_cons_succ, List.getElem?_cons_zero]; rfl) ?_ ordP_none
          with_reducible refine arm_store (by kernel_rfl) (by kernel_rfl) h145_q s_cs2 o_cs2 a_cs2 ?_
          intro x146 kN146 hX146 hz146
          have hT146 := hT145.trans' hX146 (fun i hm hi => by have := hl143; simp at hm; omega)
          have h146_p := hX146.heap kN145 (by simp; omega)
          go_wp2_with (fail)
          refine ord_last hT146 ?_
          show Exit.then _ _ Exit.normal _ _
          go_wp2_with fail
          go_simp
          go_meet
          exact ⟨_, _, rfl, rfl, h146_p, kN146, hT146⟩
        refine ordP_step _ (by simp only [List.getElem?_toArray, List.getElem?_cons_succ, List.getElem?_cons_zero]; rfl) ?_ ordP_none
        with_reducible refine arm_alloc (zero_seal _) ?_
        intro g147 x147 hb147 kN147 hU147 hz147
        change x147.heap[g147]? = some (.cells zseal 46 (0, 0)) at kN147
        have hT147 := hT137.trans hU147
        have hl147 := hT137.size
        rw [hb147] at hl147
        have hn147_p : g137 ≠ g147 := by have := lt_of_heap kN137; omega
        clear hb147 hz147
        have h147_p := hU147.heap kN137 (by simp)
        go_wp2_with (fail)
        refine ord_more (by simp [Ord.first]) hT147 ?_
        refine ordP_step _ (by simp only [List.getElem?_toArray, List.getElem?_cons_succ, List.getElem?_cons_zero]; rfl) ?_ ordP_none
        go_wp2_with (fail)
        with_reducible refine (HC1.out _).mono ?_
        rintro e x148 ⟨rfl, hU148⟩
        have hT148 := hT147.trans hU148
        have h148_p := hU148.heap h147_p (by simp)
        have h148_q := hU148.heap kN147 (by simp)
        go_wp2_with (fail)
        refine ord_more (by simp [Ord.first]) hT148 ?_
        refine ordP_step _ (by simp only [List.getElem?_toArray, List.getElem?_cons_succ, List.getElem?_cons_zero]; rfl) ?_ ordP_none
        go_wp2_with (fail)
        with_reducible refine (HC2.out _).mono ?_
        rintro e x149 ⟨rfl, hU149⟩
        have hT149 := hT148.trans hU149
        have h149_p := hU149.heap h148_p (by simp)
        have h149_q := hU149.heap h148_q (by simp)
        go_wp2_with (fail)
        refine ord_more (by simp [Ord.first]) hT149 ?_
        refine ordP_step _ (by simp only [List.getElem?_toArray, List.getElem?_cons_succ, List.getElem?_cons_zero]; rfl) ?_ ordP_none
        with_reducible refine arm_store (by kernel_rfl) (by kernel_rfl) h149_p s_cs1 o_cs1 a_cs1 ?_
        intro x150 kN150 hX150 hz150
        have hT150 := hT149.trans' hX150 (fun i hm hi => by have := hl137; simp at hm; omega)
        have h150_q := hX150.heap h149_q (by simp; omega)
        go_wp2_with (fail)
        refine ord_more (by simp [Ord.first]) hT150 ?_
        refine ordP_step _ (by simp only [List.getElem?_toArray, List.getElem?_cons_succ, List.getElem?_cons_zero]; rfl) ?_ ordP_none
        with_reducible refine arm_store (by kernel_rfl) (by kernel_rfl) h150_q s_cs2 o_cs2 a_cs2 ?_
        intro x151 kN151 hX151 hz151
        have hT151 := hT150.trans' hX151 (fun i hm hi => by have := hl147; simp at hm; omega)
        have h151_p := hX151.heap kN150 (by simp; omega)
        go_wp2_with (fail)
        refine ord_last hT151 ?_
        show Exit.then _ _ Exit.normal _ _
        go_wp2_with fail
        go_simp
        go_meet
        exact ⟨_, _, rfl, rfl, h151_p, kN151, hT151⟩
      refine ordP_step _ (by simp only [List.getElem?_toArray, List.getElem?_cons_succ, List.getElem?_cons_zero]; rfl) ?_ ordP_none
      with_reducible refine arm_alloc (zero_seal _) ?_
      intro g152 x152 hb152 kN152 hU152 hz152
      change x152.heap[g152]? = some (.cells zseal 46 (0, 0)) at kN152
      have hT152 := ((Upd.refl [] w6).drew).trans hU152
      have hl152 := ((Upd.refl [] w6).drew).size
      rw [hb152] at hl152
      clear hb152 hz152
      go_wp2_with (fail)
      refine ord_more (by simp [Ord.first]) hT152 ?_
      refine ordP_step _ (by simp only [List.getElem?_toArray, List.getElem?_cons_succ, List.getElem?_cons_zero]; rfl) ?_ ?_
      · go_wp2_with (fail)
        with_reducible refine (HC1.out _).mono ?_
        rintro e x153 ⟨rfl, hU153⟩
        have hT153 := hT152.trans hU153
        have h153_q := hU153.heap kN152 (by simp)
        go_wp2_with (fail)
        refine ord_more (by simp [Ord.first]) hT153 ?_
        refine ordP_step _ (by simp only [List.getElem?_toArray, List.getElem?_cons_succ, List.getElem?_cons_zero]; rfl) ?_ ?_
        · go_wp2_with (fail)
          with_reducible refine (HC2.out _).mono ?_
          rintro e x154 ⟨rfl, hU154⟩
          have hT154 := hT153.trans hU154
          have h154_q := hU154.heap h153_q (by simp)
          go_wp2_with (fail)
          refine ord_more (by simp [Ord.first]) hT154 ?_
          refine ordP_step _ (by simp only [List.getElem?_toArray, List.getElem?_cons_succ, List.getElem?_cons_zero]; rfl) ?_ ordP_none
          with_reducible refine arm_alloc (zero_seal _) ?_
          intro g155 x155 hb155 kN155 hU155 hz155
          change x155.heap[g155]? = some (.cells zseal 46 (0, 0)) at kN155
          have hT155 := hT154.trans hU155
          have hl155 := hT154.size
          rw [hb155] at hl155
          have hn155_q : g152 ≠ g155 := by have := lt_of_heap h154_q; omega
          clear hb155 hz155
          have h155_q := hU155.heap h154_q (by simp)
          go_wp2_with (fail)
          refine ord_more (by simp [Ord.first]) hT155 ?_
          refine ordP_step _ (by simp only [List.getElem?_toArray, List.getElem?_cons_succ, List.getElem?_cons_zero]; rfl) ?_ ordP_none
          with_reducible refine arm_store (by kernel_rfl) (by kernel_rfl) kN155 s_cs1 o_cs1 a_cs1 ?_
          intro x156 kN156 hX156 hz156
          have hT156 := hT155.trans' hX156 (fun i hm hi => by have := hl155; simp at hm; omega)
          have h156_q := hX156.heap h155_q (by simp; omega)
          go_wp2_with (fail)
          refine ord_more (by simp [Ord.first]) hT156 ?_
          refine ordP_step _ (by simp only [List.getElem?_toArray, List.getElem?_cons_succ, List.getElem?_cons_zero]; rfl) ?_ ordP_none
          with_reducible refine arm_store (by kernel_rfl) (by kernel_rfl) h156_q s_cs2 o_cs2 a_cs2 ?_
          intro x157 kN157 hX157 hz157
          have hT157 := hT156.trans' hX157 (fun i hm hi => by have := hl152; simp at hm; omega)
          have h157_p := hX157.heap kN156 (by simp; omega)
          go_wp2_with (fail)
          refine ord_last hT157 ?_
          show Exit.then _ _ Exit.normal _ _
          go_wp2_with fail
          go_simp
          go_meet
          exact ⟨_, _, rfl, rfl, h157_p, kN157, hT157⟩
        refine ordP_step _ (by simp only [List.getElem?_toArray, List.getElem?_cons_succ, List.getElem?_cons_zero]; rfl) ?_ ordP_none
        with_reducible refine arm_alloc (zero_seal _) ?_
        intro g158 x158 hb158 kN158 hU158 hz158
        change x158.heap[g158]? = some (.cells zseal 46 (0, 0)) at kN158
        have hT158 := hT153.trans hU158
        have hl158 := hT153.size
        rw [hb158] at hl158
        have hn158_q : g152 ≠ g158 := by have := lt_of_heap h153_q; omega
        clear hb158 hz158
        have h158_q := hU158.heap h153_q (by simp)
        go_wp2_with (fail)
        refine ord_more (by simp [Ord.first]) hT158 ?_
        refine ordP_step _ (by simp only [List.getElem?_toArray, List.getElem?_cons_succ, List.getElem?_cons_zero]; rfl) ?_ ordP_none
        go_wp2_with (fail)
        with_reducible refine (HC2.out _).mono ?_
        rintro e x159 ⟨rfl, hU159⟩
        have hT159 := hT158.trans hU159
        have h159_q := hU159.heap h158_q (by simp)
        have h159_p := hU159.heap kN158 (by simp)
        go_wp2_with (fail)
        refine ord_more (by simp [Ord.first]) hT159 ?_
        refine ordP_step _ (by simp only [List.getElem?_toArray, List.getElem?_cons_succ, List.getElem?_cons_zero]; rfl) ?_ ordP_none
        with_reducible refine arm_store (by kernel_rfl) (by kernel_rfl) h159_p s_cs1 o_cs1 a_cs1 ?_
        intro x160 kN160 hX160 hz160
        have hT160 := hT159.trans' hX160 (fun i hm hi => by have := hl158; simp at hm; omega)
        have h160_q := hX160.heap h159_q (by simp; omega)
        go_wp2_with (fail)
        refine ord_more (by simp [Ord.first]) hT160 ?_
        refine ordP_step _ (by simp only [List.getElem?_toArray, List.getElem?_cons_succ, List.getElem?_cons_zero]; rfl) ?_ ordP_none
        with_reducible refine arm_store (by kernel_rfl) (by kernel_rfl) h160_q s_cs2 o_cs2 a_cs2 ?_
        intro x161 kN161 hX161 hz161
        have hT161 := hT160.trans' hX161 (fun i hm hi => by have := hl152; simp at hm; omega)
        have h161_p := hX161.heap kN160 (by simp; omega)
        go_wp2_with (fail)
        refine ord_last hT161 ?_
        show Exit.then _ _ Exit.normal _ _
        go_wp2_with fail
        go_simp
        go_meet
        exact ⟨_, _, rfl, rfl, h161_p, kN161, hT161⟩
      refine ordP_step _ (by simp only [List.getElem?_toArray, List.getElem?_cons_succ, List.getElem?_cons_zero]; rfl) ?_ ordP_none
      with_reducible refine arm_alloc (zero_seal _) ?_
      intro g162 x162 hb162 kN162 hU162 hz162
      change x162.heap[g162]? = some (.cells zseal 46 (0, 0)) at kN162
      have hT162 := hT152.trans hU162
      have hl162 := hT152.size
      rw [hb162] at hl162
      have hn162_q : g152 ≠ g162 := by have := lt_of_heap kN152; omega
      clear hb162 hz162
      have h162_q := hU162.heap kN152 (by simp)
      go_wp2_with (fail)
      refine ord_more (by simp [Ord.first]) hT162 ?_
      refine ordP_step _ (by simp only [List.getElem?_toArray, List.getElem?_cons_succ, List.getElem?_cons_zero]; rfl) ?_ ordP_none
      go_wp2_with (fail)
      with_reducible refine (HC1.out _).mono ?_
      rintro e x163 ⟨rfl, hU163⟩
      have hT163 := hT162.trans hU163
      have h163_q := hU163.heap h162_q (by simp)
      have h163_p := hU163.heap kN162 (by simp)
      go_wp2_with (fail)
      refine ord_more (by simp [Ord.first]) hT163 ?_
      refine ordP_step _ (by simp only [List.getElem?_toArray, List.getElem?_cons_succ, List.getElem?_cons_zero]; rfl) ?_ ordP_none
      go_wp2_with (fail)
      with_reducible refine (HC2.out _).mono ?_
      rintro e x164 ⟨rfl, hU164⟩
      have hT164 := hT163.trans hU164
      have h164_q := hU164.heap h163_q (by simp)
      have h164_p := hU164.heap h163_p (by simp)
      go_wp2_with (fail)
      refine ord_more (by simp [Ord.first]) hT164 ?_
      refine ordP_step _ (by simp only [List.getElem?_toArray, List.getElem?_cons_succ, List.getElem?_cons_zero]; rfl) ?_ ordP_none
      with_reducible refine arm_store (by kernel_rfl) (by kernel_rfl) h164_p s_cs1 o_cs1 a_cs1 ?_
      intro x165 kN165 hX165 hz165
      have hT165 := hT164.trans' hX165 (fun i hm hi => by have := hl162; simp at hm; omega)
      have h165_q := hX165.heap h164_q (by simp; omega)
      go_wp2_with (fail)
      refine ord_more (by simp [Ord.first]) hT165 ?_
      refine ordP_step _ (by simp only [List.getElem?_toArray, List.getElem?_cons_succ, List.getElem?_cons_zero]; rfl) ?_ ordP_none
      with_reducible refine arm_store (by kernel_rfl) (by kernel_rfl) h165_q s_cs2 o_cs2 a_cs2 ?_
      intro x166 kN166 hX166 hz166
      have hT166 := hT165.trans' hX166 (fun i hm hi => by have := hl152; simp at hm; omega)
      have h166_p := hX166.heap kN165 (by simp; omega)
      go_wp2_with (fail)
      refine ord_last hT166 ?_
      show Exit.then _ _ Exit.normal _ _
      go_wp2_with fail
      go_simp
      go_meet
      exact ⟨_, _, rfl, rfl, h166_p, kN166, hT166⟩
    case rest =>
      obtain ⟨gA, gB, rfl, rfl, kA, kB, hT7⟩ := hcut
      have m27 := m26.upd hT7 (by simp)
      have m37 := m36.upd hT7 (by simp)
      have hV7 := hV6.trans hT7
      have k_b8' := hT7.heap k_b8 (by simp)
      clear k_b8
      have k_b8 := k_b8'
      clear k_b8'
      have k4' := hT7.heap k4 (by simp)
      clear k4
      have k4 := k4'
      clear k4'
      clear m26 m36 hV6 HQ1 HQ2 HR1 HR2 hT7
      go_wp2_with (first
          | (with_reducible refine arm_load (by with_unfolding_all exact rfl) kA Try.underlying46 (by with_unfolding_all exact rfl) s_cs1 ?_)
          | (with_reducible refine arm_load (by with_unfolding_all exact rfl) kB Try.underlying46 (by with_unfolding_all exact rfl) s_cs2 ?_)
          )
      with_reducible refine (HGS1.out _).mono ?_
      rintro e y8 ⟨rfl, hU8⟩
      go_wp2_with (with_reducible refine arm_alloc (zero_seal _) ?_)
      intro b11 z8 hb8 kz8 hW8 hz8
      change z8.heap[b11]? = some (.cells zseal 46 (0, 0)) at kz8
      go_wp2_with (with_reducible refine arm_store (by with_unfolding_all exact rfl) (by with_unfolding_all exact rfl) kz8 s_cs3 o_cs3 a_cs3 ?_)
      intro w8 k_b11 hX8 hzz8
      have hT8 := hU8.trans (hW8.fresh hb8 hX8)
      have m28 := m27.upd hT8 (by simp)
      have m38 := m37.upd hT8 (by simp)
      have hV8 := hV7.trans hT8
      clear kA kB hU8 hb8 kz8 hW8 hz8 hX8 hzz8 m27 m37 hV7
      have k_b8' := hT8.heap k_b8 (by simp)
      clear k_b8
      have k_b8 := k_b8'
      clear k_b8'
      have k4' := hT8.heap k4 (by simp)
      clear k4
      have k4 := k4'
      clear k4'
      clear hT8
      have HQ1 : Hid (∀ W, Upd [] w8 W → W.cell? ⟨b2, 197, none⟩ = some (.bool a.rv)) := fun W hW => (m28.upd hW (by simp)).rv HA.out
      have HQ2 : Hid (∀ W, Upd [] w8 W → W.cell? ⟨b3, 197, none⟩ = some (.bool b.rv)) := fun W hW => (m38.upd hW (by simp)).rv HB.out
      have HR1 : Hid (∀ W, Upd [] w8 W → W.rangeAt b2 198 ra) := fun W hW => by rw [← Lra.out]; exact (m28.upd hW (by simp)).rs HA.out
      have HR2 : Hid (∀ W, Upd [] w8 W → W.rangeAt b3 198 rb) := fun W hW => by rw [← Lrb.out]; exact (m38.upd hW (by simp)).rs HB.out
      go_upto_region 7 with (fail)
      go_simp
      go_cut [12, 13] (fun sA sB wx => ∃ gA gB, sA = .pointer (some ⟨gA, 0, none⟩) ∧ sB = .pointer (some ⟨gB, 0, none⟩) ∧ wx.heap[gA]? = some (.cells ct1 46 (0, 0)) ∧ wx.heap[gB]? = some (.cells ct2 46 (0, 0)) ∧ Upd [] w8 wx)
      case first =>
        refine wp_region_orders [0, 1, 2, 3, 5, 6, 7, 8] (.step 4 (.step 9 (.step 10 (.step 11 (.step 12 (.step 13 .none .none) .none) .none) (.step 11 (.step 10 (.step 12 (.step 13 .none .none) .none) .none) .none)) (.step 10 (.step 9 (.step 11 (.step 12 (.step 13 .none .none) .none) .none) (.step 11 (.step 9 (.step 12 (.step 13 .none .none) .none) .none) .none)) (.step 11 (.step 9 (.step 10 (.step 12 (.step 13 .none .none) .none) .none) (.step 10 (.step 9 (.step 12 (.step 13 .none .none) .none) .none) .none)) .none))) (.step 10 (.step 4 (.step 9 (.step 11 (.step 12 (.step 13 .none .none) .none) .none) (.step 11 (.step 9 (.step 12 (.step 13 .none .none) .none) .none) .none)) (.step 11 (.step 4 (.step 9 (.step 12 (.step 13 .none .none) .none) .none) .none) .none)) (.step 11 (.step 4 (.step 9 (.step 10 (.step 12 (.step 13 .none .none) .none) .none) (.step 10 (.step 9 (.step 12 (.step 13 .none .none) .none) .none) .none)) (.step 10 (.step 4 (.step 9 (.step 12 (.step 13 .none .none) .none) .none) .none) .none)) .none))) (Upd [] w8) (by kernel_rfl) (by kernel_rfl) ((Upd.refl _ _).drew) ?_
        refine takeO_cons _ (.pointer (some ⟨b2, 197, none⟩)) rfl (by kernel_rfl) (fun w _ => by kernel_rfl) ?_
        refine takeO_cons _ (.bool a.rv) rfl (by kernel_rfl) (yields_cell (by kernel_rfl) HQ1.out Try.underlying4 rfl) ?_
        refine takeO_cons _ (.pointer (some ⟨b2, 198, none⟩)) rfl (by kernel_rfl) (fun w _ => by kernel_rfl) ?_
        refine takeO_cons _ (.agg ra.toArray) rfl (by kernel_rfl) (yields_mid (by kernel_rfl) HR1.out Try.underlying25 rfl hsra) ?_
        refine takeO_cons _ (.pointer (some ⟨b3, 197, none⟩)) rfl (by kernel_rfl) (fun w _ => by kernel_rfl) ?_
        refine takeO_cons _ (.bool b.rv) rfl (by kernel_rfl) (yields_cell (by kernel_rfl) HQ2.out Try.underlying4 rfl) ?_
        refine takeO_cons _ (.pointer (some ⟨b3, 198, none⟩)) rfl (by kernel_rfl) (fun w _ => by kernel_rfl) ?_
        refine takeO_cons _ (.agg rb.toArray) rfl (by kernel_rfl) (yields_mid (by kernel_rfl) HR2.out Try.underlying25 rfl hsrb) ?_
        refine takeO_nil (by simp [Ord.first]) ?_
        refine ordP_step _ (by simp only [List.getElem?_toArray, List.getElem?_cons_succ, List.getElem?_cons_zero]; rfl) ?_ ?_
        · go_wp2_with (fail)
          with_reducible refine (HC3.out _).mono ?_
          rintro e x167 ⟨rfl, hU167⟩
          have hT167 := ((Upd.refl [] w8).drew).trans hU167
          go_wp2_with (fail)
          refine ord_more (by simp [Ord.first]) hT167 ?_
          refine ordP_step _ (by simp only [List.getElem?_toArray, List.getElem?_cons_succ, List.getElem?_cons_zero]; rfl) ?_ ?_
          · go_wp2_with (fail)
            with_reducible refine (HC4.out _).mono ?_
            rintro e x168 ⟨rfl, hU168⟩
            have hT168 := hT167.trans hU168
            go_wp2_with (fail)
            refine ord_more (by simp [Ord.first]) hT168 ?_
            refine ordP_step _ (by simp only [List.getElem?_toArray, List.getElem?_cons_succ, List.getElem?_cons_zero]; rfl) ?_ ?_
            · with_reducible refine arm_alloc (zero_seal _) ?_
              intro g169 x169 hb169 kN169 hU169 hz169
              change x169.heap[g169]? = some (.cells zseal 46 (0, 0)) at kN169
              have hT169 := hT168.trans hU169
              have hl169 := hT168.size
              rw [hb169] at hl169
              clear hb169 hz169
              go_wp2_with (fail)
              refine ord_more (by simp [Ord.first]) hT169 ?_
              refine ordP_step _ (by simp only [List.getElem?_toArray, List.getElem?_cons_succ, List.getElem?_cons_zero]; rfl) ?_ ordP_none
              with_reducible refine arm_alloc (zero_seal _) ?_
              intro g170 x170 hb170 kN170 hU170 hz170
              change x170.heap[g170]? = some (.cells zseal 46 (0, 0)) at kN170
              have hT170 := hT169.trans hU170
              have hl170 := hT169.size
              rw [hb170] at hl170
              have hn170_p : g169 ≠ g170 := by have := lt_of_heap kN169; omega
              clear hb170 hz170
              have h170_p := hU170.heap kN169 (by simp)
              go_wp2_with (fail)
              refine ord_more (by simp [Ord.first]) hT170 ?_
              refine ordP_step _ (by simp only [List.getElem?_toArray, List.getElem?_cons_succ, List.getElem?_cons_zero]; rfl) ?_ ordP_none
              with_reducible refine arm_store (by kernel_rfl) (by kernel_rfl) h170_p s_ct1 o_ct1 a_ct1 ?_
              intro x171 kN171 hX171 hz171
              have hT171 := hT170.trans' hX171 (fun i hm hi => by have := hl169; simp at hm; omega)
              have h171_q := hX171.heap kN170 (by simp; omega)
              go_wp2_with (fail)
              refine ord_more (by simp [Ord.first]) hT171 ?_
              refine ordP_step _ (by simp only [List.getElem?_toArray, List.getElem?_cons_succ, List.getElem?_cons_zero]; rfl) ?_ ordP_none
              with_reducible refine arm_store (by kernel_rfl) (by kernel_rfl) h171_q s_ct2 o_ct2 a_ct2 ?_
              intro x172 kN172 hX172 hz172
              have hT172 := hT171.trans' hX172 (fun i hm hi => by have := hl170; simp at hm; omega)
              have h172_p := hX172.heap kN171 (by simp; omega)
              go_wp2_with (fail)
              refine ord_last hT172 ?_
              show Exit.then _ _ Exit.normal _ _
              go_wp2_with fail
              go_simp
              go_meet
              exact ⟨_, _, rfl, rfl, h172_p, kN172, hT172⟩
            refine ordP_step _ (by simp only [List.getElem?_toArray, List.getElem?_cons_succ, List.getElem?_cons_zero]; rfl) ?_ ordP_none
            with_reducible refine arm_alloc (zero_seal _) ?_
            intro g173 x173 hb173 kN173 hU173 hz173
            change x173.heap[g173]? = some (.cells zseal 46 (0, 0)) at kN173
            have hT173 := hT168.trans hU173
            have hl173 := hT168.size
            rw [hb173] at hl173
            clear hb173 hz173
            go_wp2_with (fail)
            refine ord_more (by simp [Ord.first]) hT173 ?_
            refine ordP_step _ (by simp only [List.getElem?_toArray, List.getElem?_cons_succ, List.getElem?_cons_zero]; rfl) ?_ ordP_none
            with_reducible refine arm_alloc (zero_seal _) ?_
            intro g174 x174 hb174 kN174 hU174 hz174
            change x174.heap[g174]? = some (.cells zseal 46 (0, 0)) at kN174
            have hT174 := hT173.trans hU174
            have hl174 := hT173.size
            rw [hb174] at hl174
            have hn174_q : g173 ≠ g174 := by have := lt_of_heap kN173; omega
            clear hb174 hz174
            have h174_q := hU174.heap kN173 (by simp)
            go_wp2_with (fail)
            refine ord_more (by simp [Ord.first]) hT174 ?_
            refine ordP_step _ (by simp only [List.getElem?_toArray, List.getElem?_cons_succ, List.getElem?_cons_zero]; rfl) ?_ ordP_none
            with_reducible refine arm_store (by kernel_rfl) (by kernel_rfl) kN174 s_ct1 o_ct1 a_ct1 ?_
            intro x175 kN175 hX175 hz175
            have hT175 := hT174.trans' hX175 (fun i hm hi => by have := hl174; simp at hm; omega)
            have h175_q := hX175.heap h174_q (by simp; omega)
            go_wp2_with (fail)
            refine ord_more (by simp [Ord.first]) hT175 ?_
            refine ordP_step _ (by simp only [List.getElem?_toArray, List.getElem?_cons_succ, List.getElem?_cons_zero]; rfl) ?_ ordP_none
            with_reducible refine arm_store (by kernel_rfl) (by kernel_rfl) h175_q s_ct2 o_ct2 a_ct2 ?_
            intro x176 kN176 hX176 hz176
            have hT176 := hT175.trans' hX176 (fun i hm hi => by have := hl173; simp at hm; omega)
            have h176_p := hX176.heap kN175 (by simp; omega)
            go_wp2_with (fail)
            refine ord_last hT176 ?_
            show Exit.then _ _ Exit.normal _ _
            go_wp2_with fail
            go_simp
            go_meet
            exact ⟨_, _, rfl, rfl, h176_p, kN176, hT176⟩
          refine ordP_step _ (by simp only [List.getElem?_toArray, List.getElem?_cons_succ, List.getElem?_cons_zero]; rfl) ?_ ?_
          · with_reducible refine arm_alloc (zero_seal _) ?_
            intro g177 x177 hb177 kN177 hU177 hz177
            change x177.heap[g177]? = some (.cells zseal 46 (0, 0)) at kN177
            have hT177 := hT167.trans hU177
            have hl177 := hT167.size
            rw [hb177] at hl177
            clear hb177 hz177
            go_wp2_with (fail)
            refine ord_more (by simp [Ord.first]) hT177 ?_
            refine ordP_step _ (by simp only [List.getElem?_toArray, List.getElem?_cons_succ, List.getElem?_cons_zero]; rfl) ?_ ?_
            · go_wp2_with (fail)
              with_reducible refine (HC4.out _).mono ?_
              rintro e x178 ⟨rfl, hU178⟩
              have hT178 := hT177.trans hU178
              have h178_p := hU178.heap kN177 (by simp)
              go_wp2_with (fail)
              refine ord_more (by simp [Ord.first]) hT178 ?_
              refine ordP_step _ (by simp only [List.getElem?_toArray, List.getElem?_cons_succ, List.getElem?_cons_zero]; rfl) ?_ ordP_none
              with_reducible refine arm_alloc (zero_seal _) ?_
              intro g179 x179 hb179 kN179 hU179 hz179
              change x179.heap[g179]? = some (.cells zseal 46 (0, 0)) at kN179
              have hT179 := hT178.trans hU179
              have hl179 := hT178.size
              rw [hb179] at hl179
              have hn179_p : g177 ≠ g179 := by have := lt_of_heap h178_p; omega
              clear hb179 hz179
              have h179_p := hU179.heap h178_p (by simp)
              go_wp2_with (fail)
              refine ord_more (by simp [Ord.first]) hT179 ?_
              refine ordP_step _ (by simp only [List.getElem?_toArray, List.getElem?_cons_succ, List.getElem?_cons_zero]; rfl) ?_ ordP_none
              with_reducible refine arm_store (by kernel_rfl) (by kernel_rfl) h179_p s_ct1 o_ct1 a_ct1 ?_
              intro x180 kN180 hX180 hz180
              have hT180 := hT179.trans' hX180 (fun i hm hi => by have := hl177; simp at hm; omega)
              have h180_q := hX180.heap kN179 (by simp; omega)
              go_wp2_with (fail)
              refine ord_more (by simp [Ord.first]) hT180 ?_
              refine ordP_step _ (by simp only [List.getElem?_toArray, List.getElem?_cons_succ, List.getElem?_cons_zero]; rfl) ?_ ordP_none
              with_reducible refine arm_store (by kernel_rfl) (by kernel_rfl) h180_q s_ct2 o_ct2 a_ct2 ?_
              intro x181 kN181 hX181 hz181
              have hT181 := hT180.trans' hX181 (fun i hm hi => by have := hl179; simp at hm; omega)
              have h181_p := hX181.heap kN180 (by simp; omega)
              go_wp2_with (fail)
              refine ord_last hT181 ?_
              show Exit.then _ _ Exit.normal _ _
              go_wp2_with fail
              go_simp
              go_meet
              exact ⟨_, _, rfl, rfl, h181_p, kN181, hT181⟩
            refine ordP_step _ (by simp only [List.getElem?_toArray, List.getElem?_cons_succ, List.getElem?_cons_zero]; rfl) ?_ ordP_none
            with_reducible refine arm_alloc (zero_seal _) ?_
            intro g182 x182 hb182 kN182 hU182 hz182
            change x182.heap[g182]? = some (.cells zseal 46 (0, 0)) at kN182
            have hT182 := hT177.trans hU182
            have hl182 := hT177.size
            rw [hb182] at hl182
            have hn182_p : g177 ≠ g182 := by have := lt_of_heap kN177; omega
            clear hb182 hz182
            have h182_p := hU182.heap kN177 (by simp)
            go_wp2_with (fail)
            refine ord_more (by simp [Ord.first]) hT182 ?_
            refine ordP_step _ (by simp only [List.getElem?_toArray, List.getElem?_cons_succ, List.getElem?_cons_zero]; rfl) ?_ ordP_none
            go_wp2_with (fail)
            with_reducible refine (HC4.out _).mono ?_
            rintro e x183 ⟨rfl, hU183⟩
            have hT183 := hT182.trans hU183
            have h183_p := hU183.heap h182_p (by simp)
            have h183_q := hU183.heap kN182 (by simp)
            go_wp2_with (fail)
            refine ord_more (by simp [Ord.first]) hT183 ?_
            refine ordP_step _ (by simp only [List.getElem?_toArray, List.getElem?_cons_succ, List.getElem?_cons_zero]; rfl) ?_ ordP_none
            with_reducible refine arm_store (by kernel_rfl) (by kernel_rfl) h183_p s_ct1 o_ct1 a_ct1 ?_
            intro x184 kN184 hX184 hz184
            have hT184 := hT183.trans' hX184 (fun i hm hi => by have := hl177; simp at hm; omega)
            have h184_q := hX184.heap h183_q (by simp; omega)
            go_wp2_with (fail)
            refine ord_more (by simp [Ord.first]) hT184 ?_
            refine ordP_step _ (by simp only [List.getElem?_toArray, List.getElem?_cons_succ, List.getElem?_cons_zero]; rfl) ?_ ordP_none
            with_reducible refine arm_store (by kernel_rfl) (by kernel_rfl) h184_q s_ct2 o_ct2 a_ct2 ?_
            intro x185 kN185 hX185 hz185
            have hT185 := hT184.trans' hX185 (fun i hm hi => by have := hl182; simp at hm; omega)
            have h185_p := hX185.heap kN184 (by simp; omega)
            go_wp2_with (fail)
            refine ord_last hT185 ?_
            show Exit.then _ _ Exit.normal _ _
            go_wp2_with fail
            go_simp
            go_meet
            exact ⟨_, _, rfl, rfl, h185_p, kN185, hT185⟩
          refine ordP_step _ (by simp only [List.getElem?_toArray, List.getElem?_cons_succ, List.getElem?_cons_zero]; rfl) ?_ ordP_none
          with_reducible refine arm_alloc (zero_seal _) ?_
          intro g186 x186 hb186 kN186 hU186 hz186
          change x186.heap[g186]? = some (.cells zseal 46 (0, 0)) at kN186
          have hT186 := hT167.trans hU186
          have hl186 := hT167.size
          rw [hb186] at hl186
          clear hb186 hz186
          go_wp2_with (fail)
          refine ord_more (by simp [Ord.first]) hT186 ?_
          refine ordP_step _ (by simp only [List.getElem?_toArray, List.getElem?_cons_succ, List.getElem?_cons_zero]; rfl) ?_ ?_
          · go_wp2_with (fail)
            with_reducible refine (HC4.out _).mono ?_
            rintro e x187 ⟨rfl, hU187⟩
            have hT187 := hT186.trans hU187
            have h187_q := hU187.heap kN186 (by simp)
            go_wp2_with (fail)
            refine ord_more (by simp [Ord.first]) hT187 ?_
            refine ordP_step _ (by simp only [List.getElem?_toArray, List.getElem?_cons_succ, List.getElem?_cons_zero]; rfl) ?_ ordP_none
            with_reducible refine arm_alloc (zero_seal _) ?_
            intro g188 x188 hb188 kN188 hU188 hz188
            change x188.heap[g188]? = some (.cells zseal 46 (0, 0)) at kN188
            have hT188 := hT187.trans hU188
            have hl188 := hT187.size
            rw [hb188] at hl188
            have hn188_q : g186 ≠ g188 := by have := lt_of_heap h187_q; omega
            clear hb188 hz188
            have h188_q := hU188.heap h187_q (by simp)
            go_wp2_with (fail)
            refine ord_more (by simp [Ord.first]) hT188 ?_
            refine ordP_step _ (by simp only [List.getElem?_toArray, List.getElem?_cons_succ, List.getElem?_cons_zero]; rfl) ?_ ordP_none
            with_reducible refine arm_store (by kernel_rfl) (by kernel_rfl) kN188 s_ct1 o_ct1 a_ct1 ?_
            intro x189 kN189 hX189 hz189
            have hT189 := hT188.trans' hX189 (fun i hm hi => by have := hl188; simp at hm; omega)
            have h189_q := hX189.heap h188_q (by simp; omega)
            go_wp2_with (fail)
            refine ord_more (by simp [Ord.first]) hT189 ?_
            refine ordP_step _ (by simp only [List.getElem?_toArray, List.getElem?_cons_succ, List.getElem?_cons_zero]; rfl) ?_ ordP_none
            with_reducible refine arm_store (by kernel_rfl) (by kernel_rfl) h189_q s_ct2 o_ct2 a_ct2 ?_
            intro x190 kN190 hX190 hz190
            have hT190 := hT189.trans' hX190 (fun i hm hi => by have := hl186; simp at hm; omega)
            have h190_p := hX190.heap kN189 (by simp; omega)
            go_wp2_with (fail)
            refine ord_last hT190 ?_
            show Exit.then _ _ Exit.normal _ _
            go_wp2_with fail
            go_simp
            go_meet
            exact ⟨_, _, rfl, rfl, h190_p, kN190, hT190⟩
          refine ordP_step _ (by simp only [List.getElem?_toArray, List.getElem?_cons_succ, List.getElem?_cons_zero]; rfl) ?_ ordP_none
          with_reducible refine arm_alloc (zero_seal _) ?_
          intro g191 x191 hb191 kN191 hU191 hz191
          change x191.heap[g191]? = some (.cells zseal 46 (0, 0)) at kN191
          have hT191 := hT186.trans hU191
          have hl191 := hT186.size
          rw [hb191] at hl191
          have hn191_q : g186 ≠ g191 := by have := lt_of_heap kN186; omega
          clear hb191 hz191
          have h191_q := hU191.heap kN186 (by simp)
          go_wp2_with (fail)
          refine ord_more (by simp [Ord.first]) hT191 ?_
          refine ordP_step _ (by simp only [List.getElem?_toArray, List.getElem?_cons_succ, List.getElem?_cons_zero]; rfl) ?_ ordP_none
          go_wp2_with (fail)
          with_reducible refine (HC4.out _).mono ?_
          rintro e x192 ⟨rfl, hU192⟩
          have hT192 := hT191.trans hU192
          have h192_q := hU192.heap h191_q (by simp)
          have h192_p := hU192.heap kN191 (by simp)
          go_wp2_with (fail)
          refine ord_more (by simp [Ord.first]) hT192 ?_
          refine ordP_step _ (by simp only [List.getElem?_toArray, List.getElem?_cons_succ, List.getElem?_cons_zero]; rfl) ?_ ordP_none
          with_reducible refine arm_store (by kernel_rfl) (by kernel_rfl) h192_p s_ct1 o_ct1 a_ct1 ?_
          intro x193 kN193 hX193 hz193
          have hT193 := hT192.trans' hX193 (fun i hm hi => by have := hl191; simp at hm; omega)
          have h193_q := hX193.heap h192_q (by simp; omega)
          go_wp2_with (fail)
          refine ord_more (by simp [Ord.first]) hT193 ?_
          refine ordP_step _ (by simp only [List.getElem?_toArray, List.getElem?_cons_succ, List.getElem?_cons_zero]; rfl) ?_ ordP_none
          with_reducible refine arm_store (by kernel_rfl) (by kernel_rfl) h193_q s_ct2 o_ct2 a_ct2 ?_
          intro x194 kN194 hX194 hz194
          have hT194 := hT193.trans' hX194 (fun i hm hi => by have := hl186; simp at hm; omega)
          have h194_p := hX194.heap kN193 (by simp; omega)
          go_wp2_with (fail)
          refine ord_last hT194 ?_
          show Exit.then _ _ Exit.normal _ _
          go_wp2_with fail
          go_simp
          go_meet
          exact ⟨_, _, rfl, rfl, h194_p, kN194, hT194⟩
        refine ordP_step _ (by simp only [List.getElem?_toArray, List.getElem?_cons_succ, List.getElem?_cons_zero]; rfl) ?_ ?_
        · with_reducible refine arm_alloc (zero_seal _) ?_
          intro g195 x195 hb195 kN195 hU195 hz195
          change x195.heap[g195]? = some (.cells zseal 46 (0, 0)) at kN195
          have hT195 := ((Upd.refl [] w8).drew).trans hU195
          have hl195 := ((Upd.refl [] w8).drew).size
          rw [hb195] at hl195
          clear hb195 hz195
          go_wp2_with (fail)
          refine ord_more (by simp [Ord.first]) hT195 ?_
          refine ordP_step _ (by simp only [List.getElem?_toArray, List.getElem?_cons_succ, List.getElem?_cons_zero]; rfl) ?_ ?_
          · go_wp2_with (fail)
            with_reducible refine (HC3.out _).mono ?_
            rintro e x196 ⟨rfl, hU196⟩
            have hT196 := hT195.trans hU196
            have h196_p := hU196.heap kN195 (by simp)
            go_wp2_with (fail)
            refine ord_more (by simp [Ord.first]) hT196 ?_
            refine ordP_step _ (by simp only [List.getElem?_toArray, List.getElem?_cons_succ, List.getElem?_cons_zero]; rfl) ?_ ?_
            · go_wp2_with (fail)
              with_reducible refine (HC4.out _).mono ?_
              rintro e x197 ⟨rfl, hU197⟩
              have hT197 := hT196.trans hU197
              have h197_p := hU197.heap h196_p (by simp)
              go_wp2_with (fail)
              refine ord_more (by simp [Ord.first]) hT197 ?_
              refine ordP_step _ (by simp only [List.getElem?_toArray, List.getElem?_cons_succ, List.getElem?_cons_zero]; rfl) ?_ ordP_none
              with_reducible refine arm_alloc (zero_seal _) ?_
              intro g198 x198 hb198 kN198 hU198 hz198
              change x198.heap[g198]? = some (.cells zseal 46 (0, 0)) at kN198
              have hT198 := hT197.trans hU198
              have hl198 := hT197.size
              rw [hb198] at hl198
              have hn198_p : g195 ≠ g198 := by have := lt_of_heap h197_p; omega
              clear hb198 hz198
              have h198_p := hU198.heap h197_p (by simp)
              go_wp2_with (fail)
              refine ord_more (by simp [Ord.first]) hT198 ?_
              refine ordP_step _ (by simp only [List.getElem?_toArray, List.getElem?_cons_succ, List.getElem?_cons_zero]; rfl) ?_ ordP_none
              with_reducible refine arm_store (by kernel_rfl) (by kernel_rfl) h198_p s_ct1 o_ct1 a_ct1 ?_
              intro x199 kN199 hX199 hz199
              have hT199 := hT198.trans' hX199 (fun i hm hi => by have := hl195; simp at hm; omega)
              have h199_q := hX199.heap kN198 (by simp; omega)
              go_wp2_with (fail)
              refine ord_more (by simp [Ord.first]) hT199 ?_
              refine ordP_step _ (by simp only [List.getElem?_toArray, List.getElem?_cons_succ, List.getElem?_cons_zero]; rfl) ?_ ordP_none
              with_reducible refine arm_store (by kernel_rfl) (by kernel_rfl) h199_q s_ct2 o_ct2 a_ct2 ?_
              intro x200 kN200 hX200 hz200
              have hT200 := hT199.trans' hX200 (fun i hm hi => by have := hl198; simp at hm; omega)
              have h200_p := hX200.heap kN199 (by simp; omega)
              go_wp2_with (fail)
              refine ord_last hT200 ?_
              show Exit.then _ _ Exit.normal _ _
              go_wp2_with fail
              go_simp
              go_meet
              exact ⟨_, _, rfl, rfl, h200_p, kN200, hT200⟩
            refine ordP_step _ (by simp only [List.getElem?_toArray, List.getElem?_cons_succ, List.getElem?_cons_zero]; rfl) ?_ ordP_none
            with_reducible refine arm_alloc (zero_seal _) ?_
            intro g201 x201 hb201 kN201 hU201 hz201
            change x201.heap[g201]? = some (.cells zseal 46 (0, 0)) at kN201
            have hT201 := hT196.trans hU201
            have hl201 := hT196.size
            rw [hb201] at hl201
            have hn201_p : g195 ≠ g201 := by have := lt_of_heap h196_p; omega
            clear hb201 hz201
            have h201_p := hU201.heap h196_p (by simp)
            go_wp2_with (fail)
            refine ord_more (by simp [Ord.first]) hT201 ?_
            refine ordP_step _ (by simp only [List.getElem?_toArray, List.getElem?_cons_succ, List.getElem?_cons_zero]; rfl) ?_ ordP_none
            go_wp2_with (fail)
            with_reducible refine (HC4.out _).mono ?_
            rintro e x202 ⟨rfl, hU202⟩
            have hT202 := hT201.trans hU202
            have h202_p := hU202.heap h201_p (by simp)
            have h202_q := hU202.heap kN201 (by simp)
            go_wp2_with (fail)
            refine ord_more (by simp [Ord.first]) hT202 ?_
            refine ordP_step _ (by simp only [List.getElem?_toArray, List.getElem?_cons_succ, List.getElem?_cons_zero]; rfl) ?_ ordP_none
            with_reducible refine arm_store (by kernel_rfl) (by kernel_rfl) h202_p s_ct1 o_ct1 a_ct1 ?_
            intro x203 kN203 hX203 hz203
            have hT203 := hT202.trans' hX203 (fun i hm hi => by have := hl195; simp at hm; omega)
            have h203_q := hX203.heap h202_q (by simp; omega)
            go_wp2_with (fail)
            refine ord_more (by simp [Ord.first]) hT203 ?_
            refine ordP_step _ (by simp only [List.getElem?_toArray, List.getElem?_cons_succ, List.getElem?_cons_zero]; rfl) ?_ ordP_none
            with_reducible refine arm_store (by kernel_rfl) (by kernel_rfl) h203_q s_ct2 o_ct2 a_ct2 ?_
            intro x204 kN204 hX204 hz204
            have hT204 := hT203.trans' hX204 (fun i hm hi => by have := hl201; simp at hm; omega)
            have h204_p := hX204.heap kN203 (by simp; omega)
            go_wp2_with (fail)
            refine ord_last hT204 ?_
            show Exit.then _ _ Exit.normal _ _
            go_wp2_with fail
            go_simp
            go_meet
            exact ⟨_, _, rfl, rfl, h204_p, kN204, hT204⟩
          refine ordP_step _ (by simp only [List.getElem?_toArray, List.getElem?_cons_succ, List.getElem?_cons_zero]; rfl) ?_ ordP_none
          with_reducible refine arm_alloc (zero_seal _) ?_
          intro g205 x205 hb205 kN205 hU205 hz205
          change x205.heap[g205]? = some (.cells zseal 46 (0, 0)) at kN205
          have hT205 := hT195.trans hU205
          have hl205 := hT195.size
          rw [hb205] at hl205
          have hn205_p : g195 ≠ g205 := by have := lt_of_heap kN195; omega
          clear hb205 hz205
          have h205_p := hU205.heap kN195 (by simp)
          go_wp2_with (fail)
          refine ord_more (by simp [Ord.first]) hT205 ?_
          refine ordP_step _ (by simp only [List.getElem?_toArray, List.getElem?_cons_succ, List.getElem?_cons_zero]; rfl) ?_ ordP_none
          go_wp2_with (fail)
          with_reducible refine (HC3.out _).mono ?_
          rintro e x206 ⟨rfl, hU206⟩
          have hT206 := hT205.trans hU206
          have h206_p := hU206.heap h205_p (by simp)
          have h206_q := hU206.heap kN205 (by simp)
          go_wp2_with (fail)
          refine ord_more (by simp [Ord.first]) hT206 ?_
          refine ordP_step _ (by simp only [List.getElem?_toArray, List.getElem?_cons_succ, List.getElem?_cons_zero]; rfl) ?_ ordP_none
          go_wp2_with (fail)
          with_reducible refine (HC4.out _).mono ?_
          rintro e x207 ⟨rfl, hU207⟩
          have hT207 := hT206.trans hU207
          have h207_p := hU207.heap h206_p (by simp)
          have h207_q := hU207.heap h206_q (by simp)
          go_wp2_with (fail)
          refine ord_more (by simp [Ord.first]) hT207 ?_
          refine ordP_step _ (by simp only [List.getElem?_toArray, List.getElem?_cons_succ, List.getElem?_cons_zero]; rfl) ?_ ordP_none
          with_reducible refine arm_store (by kernel_rfl) (by kernel_rfl) h207_p s_ct1 o_ct1 a_ct1 ?_
          intro x208 kN208 hX208 hz208
          have hT208 := hT207.trans' hX208 (fun i hm hi => by have := hl195; simp at hm; omega)
          have h208_q := hX208.heap h207_q (by simp; omega)
          go_wp2_with (fail)
          refine ord_more (by simp [Ord.first]) hT208 ?_
          refine ordP_step _ (by simp only [List.getElem?_toArray, List.getElem?_cons_succ, List.getElem?_cons_zero]; rfl) ?_ ordP_none
          with_reducible refine arm_store (by kernel_rfl) (by kernel_rfl) h208_q s_ct2 o_ct2 a_ct2 ?_
          intro x209 kN209 hX209 hz209
          have hT209 := hT208.trans' hX209 (fun i hm hi => by have := hl205; simp at hm; omega)
          have h209_p := hX209.heap kN208 (by simp; omega)
          go_wp2_with (fail)
          refine ord_last hT209 ?_
          show Exit.then _ _ Exit.normal _ _
          go_wp2_with fail
          go_simp
          go_meet
          exact ⟨_, _, rfl, rfl, h209_p, kN209, hT209⟩
        refine ordP_step _ (by simp only [List.getElem?_toArray, List.getElem?_cons_succ, List.getElem?_cons_zero]; rfl) ?_ ordP_none
        with_reducible refine arm_alloc (zero_seal _) ?_
        intro g210 x210 hb210 kN210 hU210 hz210
        change x210.heap[g210]? = some (.cells zseal 46 (0, 0)) at kN210
        have hT210 := ((Upd.refl [] w8).drew).trans hU210
        have hl210 := ((Upd.refl [] w8).drew).size
        rw [hb210] at hl210
        clear hb210 hz210
        go_wp2_with (fail)
        refine ord_more (by simp [Ord.first]) hT210 ?_
        refine ordP_step _ (by simp only [List.getElem?_toArray, List.getElem?_cons_succ, List.getElem?_cons_zero]; rfl) ?_ ?_
        · go_wp2_with (fail)
          with_reducible refine (HC3.out _).mono ?_
          rintro e x211 ⟨rfl, hU211⟩
          have hT211 := hT210.trans hU211
          have h211_q := hU211.heap kN210 (by simp)
          go_wp2_with (fail)
          refine ord_more (by simp [Ord.first]) hT211 ?_
          refine ordP_step _ (by simp only [List.getElem?_toArray, List.getElem?_cons_succ, List.getElem?_cons_zero]; rfl) ?_ ?_
          · go_wp2_with (fail)
            with_reducible refine (HC4.out _).mono ?_
            rintro e x212 ⟨rfl, hU212⟩
            have hT212 := hT211.trans hU212
            have h212_q := hU212.heap h211_q (by simp)
            go_wp2_with (fail)
            refine ord_more (by simp [Ord.first]) hT212 ?_
            refine ordP_step _ (by simp only [List.getElem?_toArray, List.getElem?_cons_succ, List.getElem?_cons_zero]; rfl) ?_ ordP_none
            with_reducible refine arm_alloc (zero_seal _) ?_
            intro g213 x213 hb213 kN213 hU213 hz213
            change x213.heap[g213]? = some (.cells zseal 46 (0, 0)) at kN213
            have hT213 := hT212.trans hU213
            have hl213 := hT212.size
            rw [hb213] at hl213
            have hn213_q : g210 ≠ g213 := by have := lt_of_heap h212_q; omega
            clear hb213 hz213
            have h213_q := hU213.heap h212_q (by simp)
            go_wp2_with (fail)
            refine ord_more (by simp [Ord.first]) hT213 ?_
            refine ordP_step _ (by simp only [List.getElem?_toArray, List.getElem?_cons_succ, List.getElem?_cons_zero]; rfl) ?_ ordP_none
            with_reducible refine arm_store (by kernel_rfl) (by kernel_rfl) kN213 s_ct1 o_ct1 a_ct1 ?_
            intro x214 kN214 hX214 hz214
            have hT214 := hT213.trans' hX214 (fun i hm hi => by have := hl213; simp at hm; omega)
            have h214_q := hX214.heap h213_q (by simp; omega)
            go_wp2_with (fail)
            refine ord_more (by simp [Ord.first]) hT214 ?_
            refine ordP_step _ (by simp only [List.getElem?_toArray, List.getElem?_cons_succ, List.getElem?_cons_zero]; rfl) ?_ ordP_none
            with_reducible refine arm_store (by kernel_rfl) (by kernel_rfl) h214_q s_ct2 o_ct2 a_ct2 ?_
            intro x215 kN215 hX215 hz215
            have hT215 := hT214.trans' hX215 (fun i hm hi => by have := hl210; simp at hm; omega)
            have h215_p := hX215.heap kN214 (by simp; omega)
            go_wp2_with (fail)
            refine ord_last hT215 ?_
            show Exit.then _ _ Exit.normal _ _
            go_wp2_with fail
            go_simp
            go_meet
            exact ⟨_, _, rfl, rfl, h215_p, kN215, hT215⟩
          refine ordP_step _ (by simp only [List.getElem?_toArray, List.getElem?_cons_succ, List.getElem?_cons_zero]; rfl) ?_ ordP_none
          with_reducible refine arm_alloc (zero_seal _) ?_
          intro g216 x216 hb216 kN216 hU216 hz216
          change x216.heap[g216]? = some (.cells zseal 46 (0, 0)) at kN216
          have hT216 := hT211.trans hU216
          have hl216 := hT211.size
          rw [hb216] at hl216
          have hn216_q : g210 ≠ g216 := by have := lt_of_heap h211_q; omega
          clear hb216 hz216
          have h216_q := hU216.heap h211_q (by simp)
          go_wp2_with (fail)
          refine ord_more (by simp [Ord.first]) hT216 ?_
          refine ordP_step _ (by simp only [List.getElem?_toArray, List.getElem?_cons_succ, List.getElem?_cons_zero]; rfl) ?_ ordP_none
          go_wp2_with (fail)
          with_reducible refine (HC4.out _).mono ?_
          rintro e x217 ⟨rfl, hU217⟩
          have hT217 := hT216.trans hU217
          have h217_q := hU217.heap h216_q (by simp)
          have h217_p := hU217.heap kN216 (by simp)
          go_wp2_with (fail)
          refine ord_more (by simp [Ord.first]) hT217 ?_
          refine ordP_step _ (by simp only [List.getElem?_toArray, List.getElem?_cons_succ, List.getElem?_cons_zero]; rfl) ?_ ordP_none
          with_reducible refine arm_store (by kernel_rfl) (by kernel_rfl) h217_p s_ct1 o_ct1 a_ct1 ?_
          intro x218 kN218 hX218 hz218
          have hT218 := hT217.trans' hX218 (fun i hm hi => by have := hl216; simp at hm; omega)
          have h218_q := hX218.heap h217_q (by simp; omega)
          go_wp2_with (fail)
          refine ord_more (by simp [Ord.first]) hT218 ?_
          refine ordP_step _ (by simp only [List.getElem?_toArray, List.getElem?_cons_succ, List.getElem?_cons_zero]; rfl) ?_ ordP_none
          with_reducible refine arm_store (by kernel_rfl) (by kernel_rfl) h218_q s_ct2 o_ct2 a_ct2 ?_
          intro x219 kN219 hX219 hz219
          have hT219 := hT218.trans' hX219 (fun i hm hi => by have := hl210; simp at hm; omega)
          have h219_p := hX219.heap kN218 (by simp; omega)
          go_wp2_with (fail)
          refine ord_last hT219 ?_
          show Exit.then _ _ Exit.normal _ _
          go_wp2_with fail
          go_simp
          go_meet
          exact ⟨_, _, rfl, rfl, h219_p, kN219, hT219⟩
        refine ordP_step _ (by simp only [List.getElem?_toArray, List.getElem?_cons_succ, List.getElem?_cons_zero]; rfl) ?_ ordP_none
        with_reducible refine arm_alloc (zero_seal _) ?_
        intro g220 x220 hb220 kN220 hU220 hz220
        change x220.heap[g220]? = some (.cells zseal 46 (0, 0)) at kN220
        have hT220 := hT210.trans hU220
        have hl220 := hT210.size
        rw [hb220] at hl220
        have hn220_q : g210 ≠ g220 := by have := lt_of_heap kN210; omega
        clear hb220 hz220
        have h220_q := hU220.heap kN210 (by simp)
        go_wp2_with (fail)
        refine ord_more (by simp [Ord.first]) hT220 ?_
        refine ordP_step _ (by simp only [List.getElem?_toArray, List.getElem?_cons_succ, List.getElem?_cons_zero]; rfl) ?_ ordP_none
        go_wp2_with (fail)
        with_reducible refine (HC3.out _).mono ?_
        rintro e x221 ⟨rfl, hU221⟩
        have hT221 := hT220.trans hU221
        have h221_q := hU221.heap h220_q (by simp)
        have h221_p := hU221.heap kN220 (by simp)
        go_wp2_with (fail)
        refine ord_more (by simp [Ord.first]) hT221 ?_
        refine ordP_step _ (by simp only [List.getElem?_toArray, List.getElem?_cons_succ, List.getElem?_cons_zero]; rfl) ?_ ordP_none
        go_wp2_with (fail)
        with_reducible refine (HC4.out _).mono ?_
        rintro e x222 ⟨rfl, hU222⟩
        have hT222 := hT221.trans hU222
        have h222_q := hU222.heap h221_q (by simp)
        have h222_p := hU222.heap h221_p (by simp)
        go_wp2_with (fail)
        refine ord_more (by simp [Ord.first]) hT222 ?_
        refine ordP_step _ (by simp only [List.getElem?_toArray, List.getElem?_cons_succ, List.getElem?_cons_zero]; rfl) ?_ ordP_none
        with_reducible refine arm_store (by kernel_rfl) (by kernel_rfl) h222_p s_ct1 o_ct1 a_ct1 ?_
        intro x223 kN223 hX223 hz223
        have hT223 := hT222.trans' hX223 (fun i hm hi => by have := hl220; simp at hm; omega)
        have h223_q := hX223.heap h222_q (by simp; omega)
        go_wp2_with (fail)
        refine ord_more (by simp [Ord.first]) hT223 ?_
        refine ordP_step _ (by simp only [List.getElem?_toArray, List.getElem?_cons_succ, List.getElem?_cons_zero]; rfl) ?_ ordP_none
        with_reducible refine arm_store (by kernel_rfl) (by kernel_rfl) h223_q s_ct2 o_ct2 a_ct2 ?_
        intro x224 kN224 hX224 hz224
        have hT224 := hT223.trans' hX224 (fun i hm hi => by have := hl210; simp at hm; omega)
        have h224_p := hX224.heap kN223 (by simp; omega)
        go_wp2_with (fail)
        refine ord_last hT224 ?_
        show Exit.then _ _ Exit.normal _ _
        go_wp2_with fail
        go_simp
        go_meet
        exact ⟨_, _, rfl, rfl, h224_p, kN224, hT224⟩
      case rest =>
        obtain ⟨gA, gB, rfl, rfl, kA, kB, hT9⟩ := hcut
        have m29 := m28.upd hT9 (by simp)
        have m39 := m38.upd hT9 (by simp)
        have hV9 := hV8.trans hT9
        have k_b8' := hT9.heap k_b8 (by simp)
        clear k_b8
        have k_b8 := k_b8'
        clear k_b8'
        have k_b11' := hT9.heap k_b11 (by simp)
        clear k_b11
        have k_b11 := k_b11'
        clear k_b11'
        have k4' := hT9.heap k4 (by simp)
        clear k4
        have k4 := k4'
        clear k4'
        clear m28 m38 hV8 HQ1 HQ2 HR1 HR2 hT9
        go_wp2_with (first
            | (with_reducible refine arm_load (by with_unfolding_all exact rfl) kA Try.underlying46 (by with_unfolding_all exact rfl) s_ct1 ?_)
            | (with_reducible refine arm_load (by with_unfolding_all exact rfl) kB Try.underlying46 (by with_unfolding_all exact rfl) s_ct2 ?_)
            )
        with_reducible refine (HGS2.out _).mono ?_
        rintro e y10 ⟨rfl, hU10⟩
        go_wp2_with (with_reducible refine arm_alloc (zero_seal _) ?_)
        intro b14 z10 hb10 kz10 hW10 hz10
        change z10.heap[b14]? = some (.cells zseal 46 (0, 0)) at kz10
        go_wp2_with (with_reducible refine arm_store (by with_unfolding_all exact rfl) (by with_unfolding_all exact rfl) kz10 s_ct3 o_ct3 a_ct3 ?_)
        intro w10 k_b14 hX10 hzz10
        have hT10 := hU10.trans (hW10.fresh hb10 hX10)
        have m210 := m29.upd hT10 (by simp)
        have m310 := m39.upd hT10 (by simp)
        have hV10 := hV9.trans hT10
        clear kA kB hU10 hb10 kz10 hW10 hz10 hX10 hzz10 m29 m39 hV9
        have k_b8' := hT10.heap k_b8 (by simp)
        clear k_b8
        have k_b8 := k_b8'
        have k_b11' := hT10.heap k_b11 (by simp)
        clear k_b11
        have k_b11 := k_b11'
        clear k_b8' k_b11'
        have k4' := hT10.heap k4 (by simp)
        clear k4
        have k4 := k4'
        clear k4'
        rw [← E_cm3.out] at k_b8
        rw [← E_cs3.out] at k_b11
        rw [← E_ct3.out] at k_b14
        have r2 := m210.crt HA.out
        rw [Lla.out] at r2
        have c8 : w10.cell? ⟨b8, 0, none⟩ = some (.int .i64 J.idx) := by rw [cell_of_row _ _ _ _ _ _ k_b8]; rfl
        have c11 : w10.cell? ⟨b11, 0, none⟩ = some (.bool G1) := by rw [cell_of_row _ _ _ _ _ _ k_b11]; rfl
        have c14 : w10.cell? ⟨b14, 0, none⟩ = some (.bool G2) := by rw [cell_of_row _ _ _ _ _ _ k_b14]; rfl
        have x8 := range_of_row k_b8 1 vJ ⟨[.int .i64 J.idx], [], by simp [markC, LvJ.out], rfl⟩
        have x11 := range_of_row k_b11 1 fJ ⟨[.bool G1], [], by simp [sealC, LfJ.out], rfl⟩
        have x14 := range_of_row k_b14 1 rJ ⟨[.bool G2], [], by simp [sealC, LrJ.out], rfl⟩
        go_wp2_with (first
            | (with_reducible refine arm_load_mid (g := b2) (k := 0) (by with_unfolding_all exact rfl) r2 Try.underlying27 rfl hsa ?_)
            | (with_reducible refine arm_load_mid (g := b8) (k := 1) (by with_unfolding_all exact rfl) x8 Try.underlying23 rfl hsJv ?_)
            | (with_reducible refine arm_load_mid (g := b11) (k := 1) (by with_unfolding_all exact rfl) x11 Try.underlying25 rfl hsJf ?_)
            | (with_reducible refine arm_load_mid (g := b14) (k := 1) (by with_unfolding_all exact rfl) x14 Try.underlying25 rfl hsJr ?_)
            | (with_reducible refine arm_build7 (by with_unfolding_all exact rfl) (by with_unfolding_all exact rfl) (by with_unfolding_all exact rfl) (by with_unfolding_all exact rfl) (by with_unfolding_all exact rfl) (by with_unfolding_all exact rfl) (by with_unfolding_all exact rfl) hb7 ?_)
            | (with_reducible refine arm_store (by with_unfolding_all exact rfl) (by with_unfolding_all exact rfl) k4 hsJ hoJ haJ ?_)
            )
        intro wz kz hXz hzz
        go_wp2_with (fail)
        refine bodyPost_ret (v := .tuple #[.agg cJ, .int .i64 0]) (results_agg_tmp rfl _ _ b4 29 _ (0, 0) _ rfl kz Try.underlying29 rfl hsJ rfl) rfl ⟨rfl, ?_⟩
        exact hV10.trans' hXz (fun i hm hi => by simp at hm; omega)
end Go.Proofs.Ytjoliagnhmfdiaa
