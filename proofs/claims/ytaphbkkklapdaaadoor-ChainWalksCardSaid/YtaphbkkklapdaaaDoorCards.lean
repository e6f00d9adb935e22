/-
  DERIVED. GIVEN WITH THE SEED: THE CARDS: each row of YtaphbkkklapdaaaDoorRows.lean that lists a variable, with what it lists TIED to the program's text (the seventh form; the later family's looks); each row that meets fmt, with fmt's text TOLD by the authors' own Lean function (tested against real Go, not proved from fmt's source: count such statements apart). THE CARD IS WHAT COUNTS. Prove the row's statement (the work); the ties are given (YtaphbkkklapdaaaDoorTie.lean); close each card by the builder's one call (the guide's Derived/Test/ToyasCard.lean, 'card_holds'). Laid BY PROGRAM, IN A SANDBOX (cutbox-door.mjs). By AI agents, Wed Nov 11 2026. No macro, syntax, notation, axiom, sorry.
-/
import Derived.Test.YtaphbkkklapdaaaDoorRows
import GoSem.ClaimSeven
namespace Go.Proofs.YtaphbkkklapdaaaDoor
namespace Rows

/-- THE TIED CARD OF 'fareboxlaw15.ChainWalks'. -/
def chainWalksCard : Claim7 := { stood := { row := chainWalksRow, standIns := [], harness := (true, "4620183f1deac5c3331b6e9239e870cdd37c7235c90eadfa48565d6a1e04d55c"), looks := false }, kinds := [], alts := [], laidByText := true, laidKinds := [.data, .data], laidTests := true, laidLooks := .later }
def ChainWalksCardSaid : Prop := Claim7.holds Tryd.pinned (.plain (OpenSpec.ofChange chainWalksSpec)) chainWalksCard

/-- THE TIED CARD OF 'fareboxlaw15.ChainWalkersApart'. -/
def chainWalkersApartCard : Claim7 := { stood := { row := chainWalkersApartRow, standIns := [], harness := (true, "4620183f1deac5c3331b6e9239e870cdd37c7235c90eadfa48565d6a1e04d55c"), looks := false }, kinds := [], alts := [], laidByText := true, laidKinds := [.data, .data], laidTests := true, laidLooks := .later }
def ChainWalkersApartCardSaid : Prop := Claim7.holds Tryd.pinned (.plain (OpenSpec.ofChange chainWalkersApartSpec)) chainWalkersApartCard

/-- THE TIED CARD OF 'fareboxlaw15.ChainThrift'. -/
def chainThriftCard : Claim7 := { stood := { row := chainThriftRow, standIns := [], harness := (true, "4620183f1deac5c3331b6e9239e870cdd37c7235c90eadfa48565d6a1e04d55c"), looks := false }, kinds := [], alts := [], laidByText := true, laidKinds := [.data, .data], laidTests := true, laidLooks := .later }
def ChainThriftCardSaid : Prop := Claim7.holds Tryd.pinned (.plain (OpenSpec.ofChange chainThriftSpec)) chainThriftCard

/-- THE SECOND FORM's CARD OF 'fareboxlaw15.ChainWalks'. -/
def chainWalksUptoCard : Claim7 := { stood := { row := chainWalksUptoRow, standIns := [], harness := (true, "4620183f1deac5c3331b6e9239e870cdd37c7235c90eadfa48565d6a1e04d55c"), looks := false }, kinds := [], alts := [], laidByText := true, laidKinds := [.data, .data], laidTests := true, laidLooks := .later }
def ChainWalksUptoCardSaid : Prop := Claim7.holds Tryd.pinned (.plain (OpenSpec.upto chainWalksSpec)) chainWalksUptoCard

/-- THE SECOND FORM's CARD OF 'fareboxlaw15.ChainWalkersApart'. -/
def chainWalkersApartUptoCard : Claim7 := { stood := { row := chainWalkersApartUptoRow, standIns := [], harness := (true, "4620183f1deac5c3331b6e9239e870cdd37c7235c90eadfa48565d6a1e04d55c"), looks := false }, kinds := [], alts := [], laidByText := true, laidKinds := [.data, .data], laidTests := true, laidLooks := .later }
def ChainWalkersApartUptoCardSaid : Prop := Claim7.holds Tryd.pinned (.plain (OpenSpec.upto chainWalkersApartSpec)) chainWalkersApartUptoCard

/-- THE SECOND FORM's CARD OF 'fareboxlaw15.ChainThrift'. -/
def chainThriftUptoCard : Claim7 := { stood := { row := chainThriftUptoRow, standIns := [], harness := (true, "4620183f1deac5c3331b6e9239e870cdd37c7235c90eadfa48565d6a1e04d55c"), looks := false }, kinds := [], alts := [], laidByText := true, laidKinds := [.data, .data], laidTests := true, laidLooks := .later }
def ChainThriftUptoCardSaid : Prop := Claim7.holds Tryd.pinned (.plain (OpenSpec.upto chainThriftSpec)) chainThriftUptoCard
end Rows
end Go.Proofs.YtaphbkkklapdaaaDoor
