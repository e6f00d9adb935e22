/-
  The hash of the three bytes abc, as the standard prints it.
-/
import Derived.Test.YtdejiachopiaaaaDoorDigSum256
import Derived.Test.YtdejiachopiaaaaDoorEqHash
import Derived.Lib.SlBytesConst
namespace Go.Proofs.YtdejiachopiaaaaDoor
open Go Go.RowKit Go.Proofs
def abc : List (BitVec 8) := [97, 98, 99]
def abcHash : List (BitVec 8) := [
  0xba, 0x78, 0x16, 0xbf, 0x8f, 0x01, 0xcf, 0xea, 0x41, 0x41, 0x40, 0xde, 0x5d, 0xae, 0x22, 0x23,
  0xb0, 0x03, 0x61, 0xa3, 0x96, 0x17, 0x7a, 0x9c, 0xb4, 0x10, 0xff, 0x61, 0xf2, 0x00, 0x15, 0xad]
set_option maxRecDepth 100000 in
theorem sha256_abc : sha256 abc = abcHash := by decide +kernel
set_option maxRecDepth 100000 in
set_option maxHeartbeats 1600000 in
theorem known256 (w : World) (hg : Gl256 w) (hf : GlFirst256 w) : Calls Tryd.prog 25 #[] w fun e w' => e = .returned (.bool true) ∧ Upd [] w w' := by
  obtain ⟨T, hT⟩ : ∃ T, abc = T := ⟨_, rfl⟩
  have hq := fun w => eql_h32 abcHash abcHash rfl rfl w
  rw [show (abcHash == abcHash) = true by decide] at hq
  have hs := fun w v h1 h3 h4 => sum256 w v abc h1 (by simp [abc]) h3 h4
  rw [sha256_abc] at hs
  have hgd := guard_h32
  have kc := fun (w : World) (C : Array Value) (n c : Nat) => Lib.run_convert_bytes_const (P := Tryd.prog) w 36 5 C n c Tryd.underlying36 Tryd.underlying5
  have hrd : RdB (w.alloc (.cells #[U8 97, U8 98, U8 99] 5 (3, 4))) (.slice (some ⟨w.heap.size, 0, none⟩) 3 3) abc :=
    RdB.mk (l := abc) (by simp [abc]) (by simp [maxLen]) (Bytes.of_row (hget_new rfl) abc 0 (fun i hi => by
      match i, hi with
      | 0, _ => rfl
      | 1, _ => rfl
      | 2, _ => rfl))
  have HS := Lib.hid hs
  have HRD := Lib.hid hrd
  have HG := Lib.hid hg
  have HF := Lib.hid hf
  obtain ⟨K, hK⟩ : ∃ K : Array Value, (abcHash.map U8).toArray = K := ⟨_, rfl⟩
  have HK := Lib.hid hK
  clear hs hrd hg hf hK
  go_enter Tryd.func25, Tryd.ntmps25
  go_wp2_with (first
    | (go_at_call 20; refine (HS.out _ _ HRD.out (HG.out.upd ((Upd.refl [] w).alloc _) (by simp)) (HF.out.upd ((Upd.refl [] w).alloc _) (by simp))).mono ?_; rintro e w2 ⟨rfl, hU2⟩)
    | (refine wpList_build_eq rfl 38 _ rfl (abcHash.map U8).toArray (by kernel_rfl) ?_))
  go_ret
  exact ⟨rfl, ((Upd.refl [] w).alloc _).trans hU2⟩
end Go.Proofs.YtdejiachopiaaaaDoor
