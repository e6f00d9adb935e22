/-
  The law Sha512Pads: for every length it returns true and makes only new memory.
-/
import Derived.Test.YtdejiachopiaaaaPad512
import Derived.Test.YtdejiachopiaaaaSame
namespace Go.Proofs.Ytdejiachopiaaaa
open Go Go.RowKit Go.Proofs
set_option maxHeartbeats 1600000 in
theorem law_pads512 (w : World) (x : BitVec 64) : Calls Try.prog 4 #[U64 x] w fun e w' => e = .returned (.bool true) ∧ Upd [] w w' := by
  have hl : (pad512 x).length ≤ 200 := by rw [pad512_length]; have := noughts512_lt x; omega
  obtain ⟨p, hp⟩ : ∃ p, pad512 x = p := ⟨_, rfl⟩
  have h1 := fun w => padof512 w x
  have h2 := fun w => refpad512 w x
  rw [hp] at hl h1 h2
  have H1 := Lib.hid h1
  have H2 := Lib.hid h2
  clear h1 h2 hp
  go_enter Try.func4, Try.ntmps4
  go_wp2_with (first
    | (go_at_call 12; refine (H1.out _).mono ?_; rintro e w1 ⟨v1, rfl, hO1, hU1⟩)
    | (go_at_call 13; refine (H2.out _).mono ?_; rintro e w2 ⟨v2, rfl, hO2, hU2⟩)
    | (go_at_call 11; refine (same03 _ _ _ p p (hO1.upd0 hU2).read hO2.read (by omega) (by omega)).mono ?_; rintro e w3 ⟨rfl, n, rfl⟩))
  go_ret
  exact ⟨ret_eq (by simp), (hU1.trans hU2).drewN n⟩
end Go.Proofs.Ytdejiachopiaaaa
