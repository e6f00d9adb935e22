/-
  put, double, take of Play, at any bag beside it.
-/
import Derived.Test.YtjeddokenpkpnaaPlayF
namespace Go.Proofs.Ytjeddokenpkpnaa
open Go Go.RowKit Go.Proofs Go.Maps
theorem PBs.mono {w : World} {lo bp bb bm n m : Nat} (h : PBs w lo bp bb bm n) (hn : n ≤ m) : PBs w lo bp bb bm m := by
  obtain ⟨va, vt, al, tk, es, D, h1, h2⟩ := h
  exact ⟨va, vt, al, tk, es, D, h1, by omega⟩
theorem PBs.upd0 {w w' : World} {lo bp bb bm n : Nat} (h : PBs w lo bp bb bm n) (u : Upd [] w w') : PBs w' lo bp bb bm n := by
  obtain ⟨va, vt, al, tk, es, D, h1, h2⟩ := h
  exact ⟨va, vt, al, tk, es, D, h1.upd0 u, h2⟩
theorem put_pb (w : World) (lo bp bb bm n : Nat) (h : PBs w lo bp bb bm n) (hlo : lo ≤ w.heap.size) (hs : n < 9300) (id fr to : Int) (v : Value) (b : List (BitVec 8)) (hv : RdB w v b) :
    Calls Try.prog 22 #[.pointer (some ⟨bp, 0, none⟩), .pointer (some ⟨bb, 0, none⟩), .agg (msgC id fr to v)] w fun e w' => e = .returned (.bool true) ∧ PBs w' lo bp bb bm (n + 1) ∧ Keeps lo w w' := by
  obtain ⟨va, vt, al, tk, es, D, h1, h2⟩ := h
  have hr := h1.bag.room
  by_cases hb : 1024 < b.length
  · exact (put_p_long w lo bp bb bm va vt al tk es D h1 hlo (by omega) id fr to v b hv hb).mono fun e w' h => ⟨h.1, h.2.1.mono (by omega), h.2.2⟩
  · rcases Nat.lt_or_eq_of_le hr with hr | hr
    · exact (put_p_ok w lo bp bb bm va vt al tk es D h1 hlo (by omega) id fr to v b hv (by omega) hr).mono fun e w' h => ⟨h.1, h.2.1.mono (by omega), h.2.2⟩
    · exact (put_p_full w lo bp bb bm va vt al tk es D h1 hlo (by omega) id fr to v b hv (by omega) hr).mono fun e w' h => ⟨h.1, h.2.1.mono (by omega), h.2.2⟩
theorem double_pb (w : World) (lo bp bb bm n : Nat) (h : PBs w lo bp bb bm n) (hlo : lo ≤ w.heap.size) (hs : n < 9300) (x : Int) (hx : wfI x) :
    Calls Try.prog 24 #[.pointer (some ⟨bp, 0, none⟩), .pointer (some ⟨bb, 0, none⟩), .int .i64 x] w fun e w' => e = .returned (.bool true) ∧ PBs w' lo bp bb bm (n + 1) ∧ Keeps lo w w' := by
  obtain ⟨va, vt, al, tk, es, D, h1, h2⟩ := h
  have hr := h1.bag.room
  cases hy : findE es x with
  | none => exact (double_p_none w lo bp bb bm va vt al tk es D h1 x hx hy).mono fun e w' h => ⟨h.1, h.2.1.mono (by omega), h.2.2⟩
  | some y =>
    rcases Nat.lt_or_eq_of_le hr with hr | hr
    · exact (double_p_ok w lo bp bb bm va vt al tk es D h1 hlo (by omega) x hx y hy hr).mono fun e w' h => ⟨h.1, h.2.1.mono (by omega), h.2.2⟩
    · exact (double_p_full w lo bp bb bm va vt al tk es D h1 hlo (by omega) x hx y hy hr).mono fun e w' h => ⟨h.1, h.2.1.mono (by omega), h.2.2⟩
theorem take_pb (w : World) (lo bp bb bm n : Nat) (h : PBs w lo bp bb bm n) (x : Int) (hx : wfI x) :
    Calls Try.prog 23 #[.pointer (some ⟨bp, 0, none⟩), .pointer (some ⟨bb, 0, none⟩), .int .i64 x] w fun e w' => e = .returned (.bool true) ∧ PBs w' lo bp bb bm n ∧ Keeps lo w w' := by
  obtain ⟨va, vt, al, tk, es, D, h1, h2⟩ := h
  cases hy : findE es x with
  | none => exact (take_p_none w lo bp bb bm va vt al tk es D h1 x hx hy).mono fun e w' h => ⟨h.1, h.2.1.mono (by omega), h.2.2⟩
  | some y => exact (take_p_ok w lo bp bb bm va vt al tk es D h1 x hx y hy).mono fun e w' h => ⟨h.1, h.2.1.mono (by omega), h.2.2⟩
theorem zero_step (w : World) : (zeroValue 52).run Try.prog w = .ok (.agg (Stp.mk 0 ⟨0, 0, 0, .slice none 0 0, []⟩ 0 0).cells.toArray) w := by kernel_rfl
theorem size_stepL (s : Stp) : (Try.prog.info? 52).map (·.size) = some s.cells.toArray.size := size_step7
theorem one_step (s : Stp) (hv : s.m.v.oneCell' = true) : s.cells.toArray.all (·.oneCell') = true := by
  cases s with
  | mk k m x n => cases m with
    | mk id fr to v b => simp only [Stp.cells] at *; cases v <;> simp_all [Value.oneCell']
theorem built_play : Try.prog.built 58 [] = some (playC (.slice none 0 0) (.slice none 0 0) 0) := by kernel_rfl
theorem PlayAt.start {w : World} {lo bp : Nat} (h : w.heap[bp]? = some (.cells (playC (.slice none 0 0) (.slice none 0 0) 0) 58 (0, 0))) (hl : lo ≤ bp) : PlayAt w lo bp (.slice none 0 0) (.slice none 0 0) 0 [] [] :=
  ⟨h, OwnM.nil _ _, OwnA.nil _ _ _ _, rfl, fun i h => by simp at h, hl, by simp, by simp⟩
end Go.Proofs.Ytjeddokenpkpnaa
