/-
  The law Sha512Printed: it returns true and makes only new memory.
-/
import Derived.Test.YtghdininkolanaaDoorKnown512
import Derived.Test.YtghdininkolanaaDoorSum512
import Derived.Test.YtghdininkolanaaDoorEqWide
import Derived.Test.YtghdininkolanaaDoorMid
import Derived.Lib.SlBytesConst
import Derived.Laws.IdiomStrings
import Derived.Test.YtghdininkolanaaDoorHoist
namespace Go.Proofs.YtghdininkolanaaDoor
open Go Go.RowKit Go.Proofs
def longWide : List (BitVec 8) := [0x8e, 0x95, 0x9b, 0x75, 0xda, 0xe3, 0x13, 0xda, 0x8c, 0xf4, 0xf7, 0x28, 0x14, 0xfc, 0x14, 0x3f, 0x8f, 0x77, 0x79, 0xc6, 0xeb, 0x9f, 0x7f, 0xa1, 0x72, 0x99, 0xae, 0xad, 0xb6, 0x88, 0x90, 0x18, 0x50, 0x1d, 0x28, 0x9e, 0x49, 0x00, 0xf7, 0xe4, 0x33, 0x1b, 0x99, 0xde, 0xc4, 0xb5, 0x43, 0x3a, 0xc7, 0xd3, 0x29, 0xee, 0xb6, 0xdd, 0x26, 0x54, 0x5e, 0x96, 0xe5, 0x5b, 0x87, 0x4b, 0xe9, 0x09]
def longText : List (BitVec 8) := [97, 98, 99, 100, 101, 102, 103, 104, 98, 99, 100, 101, 102, 103, 104, 105, 99, 100, 101, 102, 103, 104, 105, 106, 100, 101, 102, 103, 104, 105, 106, 107, 101, 102, 103, 104, 105, 106, 107, 108, 102, 103, 104, 105, 106, 107, 108, 109, 103, 104, 105, 106, 107, 108, 109, 110, 104, 105, 106, 107, 108, 109, 110, 111, 105, 106, 107, 108, 109, 110, 111, 112, 106, 107, 108, 109, 110, 111, 112, 113, 107, 108, 109, 110, 111, 112, 113, 114, 108, 109, 110, 111, 112, 113, 114, 115, 109, 110, 111, 112, 113, 114, 115, 116, 110, 111, 112, 113, 114, 115, 116, 117]
set_option maxRecDepth 100000 in
theorem sha512_long : sha512 longText = longWide := by decide +kernel
/-- a string's bytes -/
def bytesOfS (s : ByteArray) : List (BitVec 8) := s.data.toList.map fun b => BitVec.ofNat 8 b.toNat
theorem bytesOfS_length (s : ByteArray) : (bytesOfS s).length = s.size := by simp [bytesOfS]
theorem rd_string (W : World) (s : ByteArray) (e : TypeId) (fr : Nat × Nat) (h : s.size ≤ maxLen) :
    RdB (W.drew.alloc (.cells (bytesRow s (grownCap W s.size 0 e)) e fr)) (.slice (some ⟨W.heap.size, 0, none⟩) s.size (grownCap W s.size 0 e)) (bytesOfS s) := by
  have hb : Bytes (W.drew.alloc (.cells (bytesRow s (grownCap W s.size 0 e)) e fr)) W.heap.size 0 (bytesOfS s) := Bytes.of_row (hget_new rfl) (bytesOfS s) 0 (fun i hi => by
    have hi' : i < s.data.size := by rw [bytesOfS_length] at hi; exact hi
    rw [Nat.zero_add, bytesRow_at s _ i hi']
    simp only [bytesOfS, List.getElem_map, Array.getElem_toList, U8]
    congr 2
    rw [BitVec.toNat_ofNat, Nat.mod_eq_of_lt (by have := s.data[i].toNat_lt; omega)])
  refine ⟨_, _, by rw [bytesOfS_length], by rw [bytesOfS_length]; exact grownCap_ge _ _ _ _, grownCap_le_maxLen _ _ _ _ h, fun _ => ⟨_, _, rfl, hb⟩⟩
theorem arm_strbytes_g {P : Program} {ops : Array Oper} {rest : List Oper} {a : Act} {w : World} {Q : Exit → Act → World → Prop} {dst : Option Tmp} {src T e type : TypeId} {pos : String} {after : Array Edge} {gd : Nat × Bool} {x : Operand} {s : ByteArray}
    (hw : Region.wanted ⟨dst, .convert src T x, type, pos, after, some gd⟩ (yielded ops a.tmps) = true) (hs : P.underlying src = some .string) (hd : P.underlying T = some (.slice e)) (he : P.underlying e = some (.int .u8)) (hx : a.eval x = .string s) (hl : s.size ≤ maxLen)
    (h : ∀ v w', RdB w' v (bytesOfS s) → Upd [] w w' → wpList P ops Q rest (a.put dst v) w') : wpList P ops Q (⟨dst, .convert src T x, type, pos, after, some gd⟩ :: rest) a w := by
  refine wpl_wanted hw fun K hK => ?_
  unfold Oper.wp execOp
  simp only [hx, Sem.run_bind, Sem.run_pure, Result.andThen_ok, run_bytes_of_string w src T e s hs hd he]
  exact hK _ _ (h _ _ (rd_string w s e _ hl) ((Upd.refl [] w).drew.alloc _))
theorem Upd.undrew (S : List Nat) (w : World) : Upd S w.drew w := ⟨rfl, rfl, rfl, Nat.le_refl _, fun _ _ _ => rfl⟩
theorem range_upd {w w' : World} {b o : Nat} {cs : List Value} (h : w.rangeAt b o cs) (u : Upd [] w w') : w'.rangeAt b o cs := fun j v hj => u.cell (h j v hj) (by simp)
set_option maxRecDepth 100000 in
set_option maxHeartbeats 6400000 in
theorem law_printed512 (w : World) (hg : Gl512 w) (hf : GlFirst512 w) :
    Calls Tryd.prog 5 #[] w fun e w' => e = .returned (.bool true) ∧ Upd [] w w' := by
  have hs3 := fun w v h1 h3 h4 => sum512 w v abc h1 (by simp [abc]) h3 h4
  have hs4 := fun w v h1 h3 h4 => sum512 w v longText h1 (by simp [longText]) h3 h4
  rw [sha512_abc] at hs3
  rw [sha512_long] at hs4
  obtain ⟨K, hK⟩ : ∃ K, abcWide = K := ⟨_, rfl⟩
  obtain ⟨M, hM⟩ : ∃ K, longWide = K := ⟨_, rfl⟩
  have hKl : K.length = 64 := by rw [← hK]; rfl
  have hMl : M.length = 64 := by rw [← hM]; rfl
  have hbK : Tryd.prog.built 46 ((abcWide.zipIdx.map fun x => (x.2, U8 x.1))) = some (K.map U8).toArray := by rw [← hK]; kernel_rfl
  rw [hK] at hs3
  rw [hM] at hs4
  have S3 := Lib.hid hs3
  have S4 := Lib.hid hs4
  have hq1 := eql_wide K hKl
  have hq2 := eql_wide M hMl
  have hgd := guard_w64
  have hsK : (Tryd.prog.info? 46).map (·.size) = some ((K.map U8).toArray).size := by simp only [List.size_toArray, List.length_map, hKl]; exact size_w64b
  have hoK : (zrow8 64).size = ((K.map U8).toArray).size := by simp only [List.size_toArray, List.length_map, hKl, zrow8_size]
  have halK : ((K.map U8).toArray).all (·.oneCell') = true := by simp
  have hsM : (Tryd.prog.info? 46).map (·.size) = some ((M.map U8).toArray).size := by simp only [List.size_toArray, List.length_map, hMl]; exact size_w64b
  have hoM : (zrow8 64).size = ((M.map U8).toArray).size := by simp only [List.size_toArray, List.length_map, hMl, zrow8_size]
  have halM : ((M.map U8).toArray).all (·.oneCell') = true := by simp
  have HG := Lib.hid hg
  have HF := Lib.hid hf
  have HKK := Lib.hid hK
  have HMM := Lib.hid hM
  clear hs3 hs4 hg hf hK hM hbK
  go_enter Tryd.func5, Tryd.ntmps5
  go_upto_region 2 with (first
    | (refine wpList_build_eq rfl 46 _ rfl (K.map U8).toArray (by rw [← HKK.out]; kernel_rfl) ?_)
    | (refine wpList_store_row rfl 46 _ _ rfl _ (K.map U8).toArray rfl rfl 46 _ (hget_new rfl) hsK hoK halK ?_))
  go_simp
  obtain ⟨T1, hT1⟩ : ∃ T, w.heap.size = T := ⟨_, rfl⟩
  generalize hw1 : World.setRow (World.alloc w _) _ _ = w1
  have h1 : w1.heap[T1]? = some (.cells (K.map U8).toArray 46 (0, 0)) := by rw [← hw1, hT1]; exact setRow_heap _ _ _ _ 46 (0, 0) (hget_new hT1.symm)
  have hU1 : Upd [] w w1 := by rw [← hw1]; exact ((Upd.refl _ w).alloc _).setRow _ _ (by simp)
  rw [hT1]
  have H1 := Lib.hid h1
  clear hw1 hT1 h1
  go_upto_region 3 with (first
    | (refine wpList_build_eq rfl 46 _ rfl (M.map U8).toArray (by rw [← HMM.out]; kernel_rfl) ?_)
    | (refine wpList_store_row rfl 46 _ _ rfl _ (M.map U8).toArray rfl rfl 46 _ (hget_new rfl) hsM hoM halM ?_))
  go_simp
  obtain ⟨T2, hT2⟩ : ∃ T, w1.heap.size = T := ⟨_, rfl⟩
  generalize hw2 : World.setRow (World.alloc w1 _) _ _ = w2
  have h2 : w2.heap[T2]? = some (.cells (M.map U8).toArray 46 (0, 0)) := by rw [← hw2, hT2]; exact setRow_heap _ _ _ _ 46 (0, 0) (hget_new hT2.symm)
  have h12 : T1 < T2 := by have := lt_of_heap H1.out; omega
  have h21 : w2.heap[T1]? = some (.cells (K.map U8).toArray 46 (0, 0)) := by rw [← hw2, setRow_other _ _ _ _ (by omega)]; exact hget_old H1.out
  have hU2 : Upd [] w w2 := by rw [← hw2]; exact (hU1.alloc _).setRow _ _ (by have := hU1.size; omega)
  rw [hT2]
  clear hw2 hT2 hU1 hoK halK hoM halM
  have H2 := Lib.hid h2
  have H21 := Lib.hid h21
  go_upto_region 4 with (fail)
  generalize hstr : ByteArray.mk _ = str
  have hbs : bytesOfS str = longText := by rw [← hstr]; decide +kernel
  have hss : str.size = 112 := by rw [← bytesOfS_length, hbs]; rfl
  have HSS : Hid (str.size ≤ maxLen) := by show str.size ≤ maxLen; rw [hss]; simp [maxLen]
  have HBS := Lib.hid hbs
  have hU2' := hU2
  obtain ⟨cK, hcK⟩ : ∃ c, (K.map U8).toArray = c := ⟨_, rfl⟩
  obtain ⟨cM, hcM⟩ : ∃ c, (M.map U8).toArray = c := ⟨_, rfl⟩
  have hq1' := fun W => hq1 W
  rw [hcK] at S3 hq1 hsK H21
  rw [hcM] at S4 hq2 hsM H2
  have HQ1 : Hid (∀ W, Upd [] w2 W → ∃ t fr, W.heap[T1]? = some (.cells cK t fr)) := fun W hW => ⟨_, _, hW.heap H21.out (by simp)⟩
  have HQ2 : Hid (∀ W, Upd [] w2 W → W.heap[T2]? = some (.cells cM 46 (0, 0))) := fun W hW => hW.heap H2.out (by simp)
  have HG2 := Lib.hid (HG.out.upd hU2 (by simp))
  have HF2 := Lib.hid (HF.out.upd hU2 (by simp))
  clear hbs hss hstr hq1' h2 h21 hcK hcM hU2'
  have kc := fun (w : World) (C : Array Value) (n c : Nat) => (show (convert 25 25 (.slice (some ⟨w.heap.size, 0, none⟩) n c)).run Tryd.prog ((w.alloc (.cells C 5)).drew) = .ok (.slice (some ⟨w.heap.size, 0, none⟩) n c) ((w.alloc (.cells C 5 (C.size, C.size + 1))).drew) from Lib.run_convert_bytes_const (P := Tryd.prog) w.drew 25 5 C n c Tryd.underlying25 Tryd.underlying5)
  refine wp_region_orders [3] (.step 0 (.step 1 (.step 2 (.step 4 (.step 5 (.step 6 (.step 7 (.step 8 (.step 9 (.step 10 (.step 11 (.step 12 .none .none) .none) .none) .none) (.step 9 (.step 8 (.step 10 (.step 11 (.step 12 .none .none) .none) .none) .none) .none)) (.step 9 (.step 7 (.step 8 (.step 10 (.step 11 (.step 12 .none .none) .none) .none) .none) .none) .none)) (.step 9 (.step 6 (.step 7 (.step 8 (.step 10 (.step 11 (.step 12 .none .none) .none) .none) .none) .none) .none) .none)) .none) .none) .none) .none) .none) (Upd [] w2) (by kernel_rfl) (by kernel_rfl) ((Upd.refl _ _).drew) ?_
  refine takeO_cons _ (.agg cK) rfl (by kernel_rfl) (yields_row (by kernel_rfl) HQ1.out Tryd.underlying46 rfl hsK) ?_
  refine takeO_nil (by simp [Ord.first]) ?_
  refine ordP_step _ (by simp only [List.getElem?_toArray, List.getElem?_cons_succ, List.getElem?_cons_zero]; rfl) ?_ ordP_none
  go_wp2_with (fail)
  refine ord_more (by simp [Ord.first]) (by repeat (first | exact Upd.refl [] _ | apply Upd.drew | apply Upd.alloc)) ?_
  refine ordP_step _ (by simp only [List.getElem?_toArray, List.getElem?_cons_succ, List.getElem?_cons_zero]; rfl) ?_ ordP_none
  go_wp2_with (fail)
  generalize hw5 : World.drew (World.alloc _ _) = w5
  have r5 : RdB w5 (.slice (some ⟨w2.heap.size, 0, none⟩) 3 3) abc := by rw [← hw5]; exact rd_abc (w := World.drew (World.alloc w2 (.cells #[U8 97, U8 98, U8 99] 5 (3, 4)))) _ _ _ _ (hget_new rfl) rfl
  have hT5 : Upd [] w2 w5 := by rw [← hw5]; exact ((Upd.refl [] w2).alloc _).drew
  clear hw5
  refine ord_more (by simp [Ord.first]) hT5 ?_
  refine ordP_step _ (by simp only [List.getElem?_toArray, List.getElem?_cons_succ, List.getElem?_cons_zero]; rfl) ?_ ordP_none
  go_wp2_with (fail)
  with_reducible refine (S3.out _ _ r5 (HG2.out.upd hT5 (by simp)) (HF2.out.upd hT5 (by simp))).mono ?_
  rintro e w6 ⟨rfl, hU6⟩
  go_wp2_with (fail)
  have hT6 := hT5.trans hU6
  refine ord_more (by simp [Ord.first]) hT6 ?_
  refine ordP_step _ (by simp only [List.getElem?_toArray, List.getElem?_cons_succ, List.getElem?_cons_zero]; rfl) ?_ ordP_none
  go_wp2_with (fail)
  refine ord_more (by simp [Ord.first]) hT6 ?_
  refine ordP_step _ (by simp only [List.getElem?_toArray, List.getElem?_cons_succ, List.getElem?_cons_zero]; rfl) ?_ ordP_none
  go_wp2_with (fail)
  refine ord_more (by simp [Ord.first]) hT6 ?_
  refine ordP_step _ (by simp only [List.getElem?_toArray, List.getElem?_cons_succ, List.getElem?_cons_zero]; rfl) ?_ ?_
  · go_wp2_with (fail)
    refine ord_more (by simp [Ord.first]) hT6 ?_
    refine ordP_step _ (by simp only [List.getElem?_toArray, List.getElem?_cons_succ, List.getElem?_cons_zero]; rfl) ?_ ?_
    · with_reducible refine arm_strbytes_g (by with_unfolding_all exact rfl) Tryd.underlying9 Tryd.underlying25 Tryd.underlying5 (by with_unfolding_all exact rfl) HSS.out ?_
      intro v7 x7 r7 hX7
      rw [HBS.out] at r7
      have tX7 := hT6.trans hX7
      go_wp2_with (fail)
      refine ord_more (by simp [Ord.first]) tX7 ?_
      refine ordP_step _ (by simp only [List.getElem?_toArray, List.getElem?_cons_succ, List.getElem?_cons_zero]; rfl) ?_ ?_
      · go_wp2_with (fail)
        with_reducible refine (S4.out _ _ r7 (HG2.out.upd tX7 (by simp)) (HF2.out.upd tX7 (by simp))).mono ?_
        rintro e x8 ⟨rfl, hX8⟩
        have tX8 := tX7.trans hX8
        go_wp2_with (fail)
        refine ord_more (by simp [Ord.first]) tX8 ?_
        refine ordP_step _ (by simp only [List.getElem?_toArray, List.getElem?_cons_succ, List.getElem?_cons_zero]; rfl) ?_ ordP_none
        have k9 := HQ2.out _ tX8
        with_reducible refine arm_load_g (by with_unfolding_all exact rfl) (by with_unfolding_all exact rfl) k9 Tryd.underlying46 (by with_unfolding_all exact rfl) hsM ?_
        clear k9
        go_wp2_with (fail)
        refine ord_more (by simp [Ord.first]) tX8 ?_
        refine ordP_step _ (by simp only [List.getElem?_toArray, List.getElem?_cons_succ, List.getElem?_cons_zero]; rfl) ?_ ordP_none
        go_wp2_with (fail)
        refine ord_more (by simp [Ord.first]) tX8 ?_
        refine ordP_step _ (by simp only [List.getElem?_toArray, List.getElem?_cons_succ, List.getElem?_cons_zero]; rfl) ?_ ordP_none
        go_wp2_with (fail)
        refine ord_more (by simp [Ord.first]) tX8 ?_
        refine ordP_step _ (by simp only [List.getElem?_toArray, List.getElem?_cons_succ, List.getElem?_cons_zero]; rfl) ?_ ordP_none
        go_wp2_with (fail)
        refine ord_last tX8 ?_
        show Exit.then _ _ Exit.normal _ _
        go_wp2_with (fail)
        go_ret
        exact ⟨rfl, hU2.trans tX8⟩
      refine ordP_step _ (by simp only [List.getElem?_toArray, List.getElem?_cons_succ, List.getElem?_cons_zero]; rfl) ?_ ordP_none
      have k9 := HQ2.out _ tX7
      with_reducible refine arm_load_g (by with_unfolding_all exact rfl) (by with_unfolding_all exact rfl) k9 Tryd.underlying46 (by with_unfolding_all exact rfl) hsM ?_
      clear k9
      go_wp2_with (fail)
      refine ord_more (by simp [Ord.first]) tX7 ?_
      refine ordP_step _ (by simp only [List.getElem?_toArray, List.getElem?_cons_succ, List.getElem?_cons_zero]; rfl) ?_ ordP_none
      go_wp2_with (fail)
      with_reducible refine (S4.out _ _ r7 (HG2.out.upd tX7 (by simp)) (HF2.out.upd tX7 (by simp))).mono ?_
      rintro e x9 ⟨rfl, hX9⟩
      have tX9 := tX7.trans hX9
      go_wp2_with (fail)
      refine ord_more (by simp [Ord.first]) tX9 ?_
      refine ordP_step _ (by simp only [List.getElem?_toArray, List.getElem?_cons_succ, List.getElem?_cons_zero]; rfl) ?_ ordP_none
      go_wp2_with (fail)
      refine ord_more (by simp [Ord.first]) tX9 ?_
      refine ordP_step _ (by simp only [List.getElem?_toArray, List.getElem?_cons_succ, List.getElem?_cons_zero]; rfl) ?_ ordP_none
      go_wp2_with (fail)
      refine ord_more (by simp [Ord.first]) tX9 ?_
      refine ordP_step _ (by simp only [List.getElem?_toArray, List.getElem?_cons_succ, List.getElem?_cons_zero]; rfl) ?_ ordP_none
      go_wp2_with (fail)
      refine ord_last tX9 ?_
      show Exit.then _ _ Exit.normal _ _
      go_wp2_with (fail)
      go_ret
      exact ⟨rfl, hU2.trans tX9⟩
    refine ordP_step _ (by simp only [List.getElem?_toArray, List.getElem?_cons_succ, List.getElem?_cons_zero]; rfl) ?_ ordP_none
    have k9 := HQ2.out _ hT6
    with_reducible refine arm_load_g (by with_unfolding_all exact rfl) (by with_unfolding_all exact rfl) k9 Tryd.underlying46 (by with_unfolding_all exact rfl) hsM ?_
    clear k9
    go_wp2_with (fail)
    refine ord_more (by simp [Ord.first]) hT6 ?_
    refine ordP_step _ (by simp only [List.getElem?_toArray, List.getElem?_cons_succ, List.getElem?_cons_zero]; rfl) ?_ ordP_none
    with_reducible refine arm_strbytes_g (by with_unfolding_all exact rfl) Tryd.underlying9 Tryd.underlying25 Tryd.underlying5 (by with_unfolding_all exact rfl) HSS.out ?_
    intro v10 x10 r10 hX10
    rw [HBS.out] at r10
    have tX10 := hT6.trans hX10
    go_wp2_with (fail)
    refine ord_more (by simp [Ord.first]) tX10 ?_
    refine ordP_step _ (by simp only [List.getElem?_toArray, List.getElem?_cons_succ, List.getElem?_cons_zero]; rfl) ?_ ordP_none
    go_wp2_with (fail)
    with_reducible refine (S4.out _ _ r10 (HG2.out.upd tX10 (by simp)) (HF2.out.upd tX10 (by simp))).mono ?_
    rintro e x11 ⟨rfl, hX11⟩
    have tX11 := tX10.trans hX11
    go_wp2_with (fail)
    refine ord_more (by simp [Ord.first]) tX11 ?_
    refine ordP_step _ (by simp only [List.getElem?_toArray, List.getElem?_cons_succ, List.getElem?_cons_zero]; rfl) ?_ ordP_none
    go_wp2_with (fail)
    refine ord_more (by simp [Ord.first]) tX11 ?_
    refine ordP_step _ (by simp only [List.getElem?_toArray, List.getElem?_cons_succ, List.getElem?_cons_zero]; rfl) ?_ ordP_none
    go_wp2_with (fail)
    refine ord_more (by simp [Ord.first]) tX11 ?_
    refine ordP_step _ (by simp only [List.getElem?_toArray, List.getElem?_cons_succ, List.getElem?_cons_zero]; rfl) ?_ ordP_none
    go_wp2_with (fail)
    refine ord_last tX11 ?_
    show Exit.then _ _ Exit.normal _ _
    go_wp2_with (fail)
    go_ret
    exact ⟨rfl, hU2.trans tX11⟩
  refine ordP_step _ (by simp only [List.getElem?_toArray, List.getElem?_cons_succ, List.getElem?_cons_zero]; rfl) ?_ ordP_none
  have k9 := HQ2.out _ hT6
  with_reducible refine arm_load_g (by with_unfolding_all exact rfl) (by with_unfolding_all exact rfl) k9 Tryd.underlying46 (by with_unfolding_all exact rfl) hsM ?_
  clear k9
  go_wp2_with (fail)
  refine ord_more (by simp [Ord.first]) hT6 ?_
  refine ordP_step _ (by simp only [List.getElem?_toArray, List.getElem?_cons_succ, List.getElem?_cons_zero]; rfl) ?_ ordP_none
  go_wp2_with (fail)
  refine ord_more (by simp [Ord.first]) hT6 ?_
  refine ordP_step _ (by simp only [List.getElem?_toArray, List.getElem?_cons_succ, List.getElem?_cons_zero]; rfl) ?_ ordP_none
  with_reducible refine arm_strbytes_g (by with_unfolding_all exact rfl) Tryd.underlying9 Tryd.underlying25 Tryd.underlying5 (by with_unfolding_all exact rfl) HSS.out ?_
  intro v12 x12 r12 hX12
  rw [HBS.out] at r12
  have tX12 := hT6.trans hX12
  go_wp2_with (fail)
  refine ord_more (by simp [Ord.first]) tX12 ?_
  refine ordP_step _ (by simp only [List.getElem?_toArray, List.getElem?_cons_succ, List.getElem?_cons_zero]; rfl) ?_ ordP_none
  go_wp2_with (fail)
  with_reducible refine (S4.out _ _ r12 (HG2.out.upd tX12 (by simp)) (HF2.out.upd tX12 (by simp))).mono ?_
  rintro e x13 ⟨rfl, hX13⟩
  have tX13 := tX12.trans hX13
  go_wp2_with (fail)
  refine ord_more (by simp [Ord.first]) tX13 ?_
  refine ordP_step _ (by simp only [List.getElem?_toArray, List.getElem?_cons_succ, List.getElem?_cons_zero]; rfl) ?_ ordP_none
  go_wp2_with (fail)
  refine ord_more (by simp [Ord.first]) tX13 ?_
  refine ordP_step _ (by simp only [List.getElem?_toArray, List.getElem?_cons_succ, List.getElem?_cons_zero]; rfl) ?_ ordP_none
  go_wp2_with (fail)
  refine ord_more (by simp [Ord.first]) tX13 ?_
  refine ordP_step _ (by simp only [List.getElem?_toArray, List.getElem?_cons_succ, List.getElem?_cons_zero]; rfl) ?_ ordP_none
  go_wp2_with (fail)
  refine ord_last tX13 ?_
  show Exit.then _ _ Exit.normal _ _
  go_wp2_with (fail)
  go_ret
  exact ⟨rfl, hU2.trans tX13⟩
end Go.Proofs.YtghdininkolanaaDoor
