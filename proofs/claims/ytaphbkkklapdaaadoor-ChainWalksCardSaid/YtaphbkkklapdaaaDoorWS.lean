/-
  A walker, told by the number of calls of Next.
-/
import Derived.Test.YtaphbkkklapdaaaDoorLawThrift15
namespace Go.Proofs.YtaphbkkklapdaaaDoor
open Go Go.RowKit Go.Proofs Go.Maps
theorem value_over {seed : List (BitVec 8)} {n i : Nat} (hi : n < i) : valueOf seed (n : Int) (i : Int) = (List.replicate 32 0, false) := by
  unfold valueOf
  rw [if_pos (by right; right; omega)]
/-- a walker behind i calls -/
def WS (w : World) (lo bw bm bx : Nat) (seed : List (BitVec 8)) (n i : Nat) : Prop :=
  ∃ (told s : Nat) (ms : List Nat) (D : DataW Value), told = min i n ∧ WalkerAt w lo bw bm bx seed n told s ms D ∧ Good n s ms ∧ ms.sum + told = n ∧ ((told = 0 ∧ ms = [n]) ∨ n ≤ s + 1)
theorem WS.upd {w w' : World} {lo bw bm bx : Nat} {seed : List (BitVec 8)} {n i : Nat} {S : List Nat} (h : WS w lo bw bm bx seed n i) (u : Upd S w w') (h1 : bw ∉ S) (h2 : bm ∉ S) (h3 : bx ∉ S) : WS w' lo bw bm bx seed n i := by
  obtain ⟨told, s, ms, D, e1, e2, e3⟩ := h
  exact ⟨told, s, ms, D, e1, e2.upd u h1 h2 h3, e3⟩
theorem WS.lt {w : World} {lo bw bm bx : Nat} {seed : List (BitVec 8)} {n i : Nat} (h : WS w lo bw bm bx seed n i) : bw < w.heap.size ∧ bm < w.heap.size ∧ bx < w.heap.size ∧ lo ≤ bw ∧ lo ≤ bm ∧ lo ≤ bx := by
  obtain ⟨told, s, ms, D, e1, e2, e3⟩ := h
  exact ⟨e2.lt.1, e2.lt.2.1, e2.lt.2.2, e2.low⟩
theorem nextW (w : World) (lo bw bm bx n i : Nat) (seed : List (BitVec 8)) (h : WS w lo bw bm bx seed n i) (hn1 : 1 ≤ n) (hn : n ≤ 4096) (hsd : seed.length = 32) (hG : Gl256 w) (hF : GlFirst256 w) (hgl : 1 < lo) (hfl : 0 < lo) :
    Calls Tryd.prog 8 #[.pointer (some ⟨bw, 0, none⟩)] w fun e w' => ∃ idx : Int, e = .returned (.tuple #[.int .i64 idx, .agg ((valueOf seed n ((i + 1 : Nat) : Int)).1.map U8).toArray, .bool (valueOf seed n ((i + 1 : Nat) : Int)).2]) ∧ ((valueOf seed n ((i + 1 : Nat) : Int)).2 = true → idx = ((i + 1 : Nat) : Int)) ∧ WS w' lo bw bm bx seed n (i + 1) ∧ Upd [bw, bm] w w' ∧ ((valueOf seed n ((i + 1 : Nat) : Int)).2 = false → idx = 0) := by
  obtain ⟨told, s, ms, D, e1, hW, hg, hs, hc⟩ := h
  by_cases hi : i < n
  · have ht : told = i := by omega
    subst ht
    obtain ⟨m, r, rfl⟩ : ∃ m r, ms = m :: r := by
      cases ms with
      | nil => simp at hs; omega
      | cons m r => exact ⟨m, r, rfl⟩
    rw [value_all hn1 hn (by omega)]
    refine (next_ w lo bw bm bx n told s m seed r D hW hg hs hn hsd hG hF hgl hfl).mono ?_
    rintro e w' ⟨he, ms', D', h1, h2, h3, h4⟩
    refine ⟨_, he, fun _ => rfl, ⟨told + 1, _, ms', D', by omega, h1, h2, h3, .inr ?_⟩, h4, fun h => by cases h⟩
    rcases hc with ⟨c1, c2⟩ | hc
    · injection c2 with c2 c3
      omega
    · omega
  · have ht : told = n := by omega
    subst ht
    rw [value_over (by omega), ← zrow_h32]
    refine (next_done w lo bw bm bx told s seed ms D hW).mono ?_
    rintro e w' ⟨he, hU⟩
    exact ⟨0, he, fun h => by simp at h, ⟨told, s, ms, D, by omega, hW.upd hU (by simp) (by simp) (by simp), hg, hs, hc⟩, hU.of0, fun _ => rfl⟩
theorem thriftyW (w : World) (lo bw bm bx n i : Nat) (seed : List (BitVec 8)) (h : WS w lo bw bm bx seed n i) (hn1 : 1 ≤ n) (hn : n ≤ 4096) (hi : i ≤ 100000) :
    Calls Tryd.prog 10 #[.pointer (some ⟨bw, 0, none⟩), .int .i64 n, .int .i64 i, .int .i64 0] w fun e w' => e = .returned (.bool true) ∧ Upd [] w w' := by
  obtain ⟨told, s, ms, D, e1, hW, hg, hs, hc⟩ := h
  refine thrifty_ w lo bw bm bx n told s i 0 seed ms D hW hg hn1 hn (fun h => ?_) ?_ (by omega) hi
  · cases ms with
    | nil => simp at hs; omega
    | cons a b => simp
  · rcases hc with ⟨c1, c2⟩ | hc
    · left; omega
    · exact .inr hc
theorem walkW (w : World) (seed : List (BitVec 8)) (n : Nat) (hs : seed.length = 32) (hn : 1 ≤ n) (hn2 : n ≤ 4096) :
    Calls Tryd.prog 6 #[.agg (seed.map U8).toArray, .int .i64 n] w fun e w' => ∃ bw bm bx, e = .returned (.tuple #[.pointer (some ⟨bw, 0, none⟩), .bool true]) ∧ WS w' w.heap.size bw bm bx seed n 0 ∧ Upd [] w w' := by
  refine (walk_ w seed n hs hn hn2).mono ?_
  rintro e w' ⟨bw, bm, bx, D, he, hW, hU⟩
  exact ⟨bw, bm, bx, he, ⟨0, 0, [n], D, by omega, hW, Good.start n hn, by simp, .inl ⟨rfl, rfl⟩⟩, hU⟩
end Go.Proofs.YtaphbkkklapdaaaDoor
