/-
  Entries: parts written over; built.
-/
import Derived.Test.YtjoliagnhmfdiaaSealed
namespace Go.Proofs.Ytjoliagnhmfdiaa
open Go Go.RowKit Go.Proofs
theorem fill_cons {place : Nat → Option (Nat × Nat)} {cells : List Value} {k o s : Nat} {v : Value} {rest : List (Nat × Value)} (h : place k = some (o, s)) (hs : v.cells.size = s) (hb : o + s ≤ cells.length) :
    Instr.fill place cells.toArray ((k, v) :: rest) = Instr.fill place (splice cells o v.cells.toList).toArray rest := by
  have e0 : (v.cells.zipIdx.foldl (fun cs x => cs.setIfInBounds (o + x.2) x.1) cells.toArray).toList = splice cells o v.cells.toList := by
    have := fold_set o v.cells.toList 0 cells.toArray (by simp [hs]; omega)
    rw [Nat.add_zero] at this
    rw [← this, ← Array.foldl_toList]
    simp
  simp only [Instr.fill, h]
  rw [if_neg (by simp [hs]; omega)]
  congr 1
  apply Array.ext'
  rw [← e0]
def zeroCrt : Crt := ⟨0, 0, 0, List.replicate 32 0, List.replicate 64 0⟩
def zeroEnt : Ent := ⟨zeroCrt, 0, List.replicate 32 0, false, List.replicate 64 0, false, List.replicate 64 0⟩
theorem zeroEnt_ok : zeroEnt.ok := by simp [zeroEnt, zeroCrt, Ent.ok, Crt.ok]
theorem zero_ent (w : World) : (zeroValue 29).run Try.prog w = .ok (.agg (entC zeroEnt).toArray) w := by kernel_rfl
theorem built_ent0 : Try.prog.built 29 [] = some (entC zeroEnt).toArray := by kernel_rfl
def placesE : List (Nat × Nat) := [(0, 99), (99, 1), (100, 32), (132, 1), (133, 64), (197, 1), (198, 64)]
theorem built_entry (parts : List (Nat × Value)) : Try.prog.built 29 parts = Instr.fill (placesE.toArray[·]?) (entC zeroEnt).toArray parts := by
  unfold Program.built
  obtain ⟨i, hi, hz⟩ : ∃ i, Try.prog.info? 29 = some i ∧ i.zero = some (.agg (entC zeroEnt).toArray) := by
    have h : (Try.prog.info? 29).map (fun i => i.zero) = some (some (.agg (entC zeroEnt).toArray)) := by kernel_rfl
    cases hq : Try.prog.info? 29 with
    | none => rw [hq] at h; cases h
    | some i => rw [hq] at h; exact ⟨i, rfl, by simpa using h⟩
  have hp : ∃ fs, Try.prog.underlying 29 = some (.struct fs) ∧ fs.toList.mapM (fun f => (Try.prog.info? f.type).map fun i => (f.offset, i.size)) = some placesE := by
    rw [Try.underlying29]
    exact ⟨_, rfl, by kernel_rfl⟩
  obtain ⟨fs, hu, hm⟩ := hp
  rw [hi, hu]
  simp only [hz, hm]
  rfl
theorem splice_mid {A M B N : List Value} (h : M.length = N.length) (k : Nat) (hk : A.length = k) : splice (A ++ (M ++ B)) k N = A ++ (N ++ B) := by
  subst hk
  unfold splice
  rw [List.take_left' rfl, ← List.append_assoc A M B, List.drop_left' (by simp [h])]
theorem ent_flat (e : Ent) : entC e = crtC e.crt ++ ([.int .i64 e.idx] ++ (e.val.map U8 ++ ([.bool e.fz] ++ (e.fs.map U8 ++ ([.bool e.rv] ++ e.rs.map U8))))) := by simp [entC, markC, sealC]
theorem splice_crt (e : Ent) (h : e.ok) (c : Crt) (hc : c.ok) : splice (entC e) 0 (crtC c) = entC { e with crt := c } := by
  rw [ent_flat, ent_flat]
  have hl : (crtC e.crt).length = (crtC c).length := (crtC_length h.1).trans (crtC_length hc).symm
  exact splice_mid (A := []) (M := crtC e.crt) hl 0 rfl
theorem splice_idx (e : Ent) (h : e.ok) (x : Int) : splice (entC e) 99 [.int .i64 x] = entC { e with idx := x } := by
  rw [ent_flat, ent_flat]
  exact splice_mid (by simp) 99 (crtC_length h.1)
theorem splice_val (e : Ent) (h : e.ok) (v : List (BitVec 8)) (hv : v.length = 32) : splice (entC e) 100 (v.map U8) = entC { e with val := v } := by
  rw [ent_flat, ent_flat]
  have := splice_mid (A := crtC e.crt ++ [.int .i64 e.idx]) (M := e.val.map U8) (B := [.bool e.fz] ++ (e.fs.map U8 ++ ([.bool e.rv] ++ e.rs.map U8))) (N := v.map U8) (by simp [hv, h.2.1]) 100 (by simp [crtC_length h.1])
  simpa using this
theorem splice_fz (e : Ent) (h : e.ok) (x : Bool) : splice (entC e) 132 [.bool x] = entC { e with fz := x } := by
  rw [ent_flat, ent_flat]
  have := splice_mid (A := crtC e.crt ++ ([.int .i64 e.idx] ++ e.val.map U8)) (M := [.bool e.fz]) (B := e.fs.map U8 ++ ([.bool e.rv] ++ e.rs.map U8)) (N := [.bool x]) (by simp) 132 (by simp [crtC_length h.1, h.2.1])
  simpa using this
theorem splice_fs (e : Ent) (h : e.ok) (v : List (BitVec 8)) (hv : v.length = 64) : splice (entC e) 133 (v.map U8) = entC { e with fs := v } := by
  rw [ent_flat, ent_flat]
  have := splice_mid (A := crtC e.crt ++ ([.int .i64 e.idx] ++ (e.val.map U8 ++ [.bool e.fz]))) (M := e.fs.map U8) (B := [.bool e.rv] ++ e.rs.map U8) (N := v.map U8) (by simp [hv, h.2.2.1]) 133 (by simp [crtC_length h.1, h.2.1])
  simpa using this
theorem splice_rv (e : Ent) (h : e.ok) (x : Bool) : splice (entC e) 197 [.bool x] = entC { e with rv := x } := by
  rw [ent_flat, ent_flat]
  have := splice_mid (A := crtC e.crt ++ ([.int .i64 e.idx] ++ (e.val.map U8 ++ ([.bool e.fz] ++ e.fs.map U8)))) (M := [.bool e.rv]) (B := e.rs.map U8) (N := [.bool x]) (by simp) 197 (by simp [crtC_length h.1, h.2.1, h.2.2.1])
  simpa using this
theorem splice_rs (e : Ent) (h : e.ok) (v : List (BitVec 8)) (hv : v.length = 64) : splice (entC e) 198 (v.map U8) = entC { e with rs := v } := by
  rw [ent_flat, ent_flat]
  have := splice_mid (A := crtC e.crt ++ ([.int .i64 e.idx] ++ (e.val.map U8 ++ ([.bool e.fz] ++ (e.fs.map U8 ++ [.bool e.rv]))))) (M := e.rs.map U8) (B := []) (N := v.map U8) (by simp [hv, h.2.2.2]) 198 (by simp [crtC_length h.1, h.2.1, h.2.2.1])
  simpa using this
theorem built_ent3 (c : Crt) (hc : c.ok) (x : Int) (v : List (BitVec 8)) (hv : v.length = 32) : Try.prog.built 29 [(0, .agg (crtC c).toArray), (1, .int .i64 x), (2, .agg (v.map U8).toArray)] = some (entC { zeroEnt with crt := c, idx := x, val := v }).toArray := by
  have z := zeroEnt_ok
  have o1 : Ent.ok { zeroEnt with crt := c } := ⟨hc, z.2⟩
  have o2 : Ent.ok { zeroEnt with crt := c, idx := x } := ⟨hc, z.2⟩
  rw [built_entry]
  rw [fill_cons (o := 0) (s := 99) rfl (by simp [Value.cells, crtC_length hc]) (by rw [entC_length z]; omega)]
  simp only [Value.cells]
  rw [splice_crt _ z c hc, fill_cons (o := 99) (s := 1) rfl (by simp [Value.cells]) (by rw [entC_length o1]; omega)]
  simp only [Value.cells]
  rw [splice_idx _ o1, fill_cons (o := 100) (s := 32) rfl (by simp [Value.cells, hv]) (by rw [entC_length o2]; omega)]
  simp only [Value.cells]
  rw [splice_val _ o2 v hv]
  rfl
theorem built_ent7 (c : Crt) (hc : c.ok) (x : Int) (v : List (BitVec 8)) (hv : v.length = 32) (a : Bool) (s : List (BitVec 8)) (hs : s.length = 64) (b : Bool) (t : List (BitVec 8)) (ht : t.length = 64) : Try.prog.built 29 [(0, .agg (crtC c).toArray), (1, .int .i64 x), (2, .agg (v.map U8).toArray), (3, .bool a), (4, .agg (s.map U8).toArray), (5, .bool b), (6, .agg (t.map U8).toArray)] = some (entC ⟨c, x, v, a, s, b, t⟩).toArray := by
  have z := zeroEnt_ok
  have o1 : Ent.ok { zeroEnt with crt := c } := ⟨hc, z.2⟩
  have o2 : Ent.ok { zeroEnt with crt := c, idx := x } := ⟨hc, z.2⟩
  have o3 : Ent.ok { zeroEnt with crt := c, idx := x, val := v } := ⟨hc, hv, z.2.2⟩
  have o4 : Ent.ok { zeroEnt with crt := c, idx := x, val := v, fz := a } := ⟨hc, hv, z.2.2⟩
  have o5 : Ent.ok { zeroEnt with crt := c, idx := x, val := v, fz := a, fs := s } := ⟨hc, hv, hs, z.2.2.2⟩
  have o6 : Ent.ok { zeroEnt with crt := c, idx := x, val := v, fz := a, fs := s, rv := b } := ⟨hc, hv, hs, z.2.2.2⟩
  rw [built_entry]
  rw [fill_cons (o := 0) (s := 99) rfl (by simp [Value.cells, crtC_length hc]) (by rw [entC_length z]; omega)]
  simp only [Value.cells]
  rw [splice_crt _ z c hc, fill_cons (o := 99) (s := 1) rfl (by simp [Value.cells]) (by rw [entC_length o1]; omega)]
  simp only [Value.cells]
  rw [splice_idx _ o1, fill_cons (o := 100) (s := 32) rfl (by simp [Value.cells, hv]) (by rw [entC_length o2]; omega)]
  simp only [Value.cells]
  rw [splice_val _ o2 v hv, fill_cons (o := 132) (s := 1) rfl (by simp [Value.cells]) (by rw [entC_length o3]; omega)]
  simp only [Value.cells]
  rw [splice_fz _ o3, fill_cons (o := 133) (s := 64) rfl (by simp [Value.cells, hs]) (by rw [entC_length o4]; omega)]
  simp only [Value.cells]
  rw [splice_fs _ o4 s hs, fill_cons (o := 197) (s := 1) rfl (by simp [Value.cells]) (by rw [entC_length o5]; omega)]
  simp only [Value.cells]
  rw [splice_rv _ o5, fill_cons (o := 198) (s := 64) rfl (by simp [Value.cells, ht]) (by rw [entC_length o6]; omega)]
  simp only [Value.cells]
  rw [splice_rs _ o6 t ht]
  rfl
end Go.Proofs.Ytjoliagnhmfdiaa
