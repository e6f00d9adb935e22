/-
  DERIVED. GIVEN WITH THE SEED: THE CARDS: each row of YtdfoffheolbokaaDoorRows.lean that lists a variable, with what it lists TIED to the program's text (the seventh form; the later family's looks); each row that meets fmt, with fmt's text TOLD by the authors' own Lean function (tested against real Go, not proved from fmt's source: count such statements apart). THE CARD IS WHAT COUNTS. Prove the row's statement (the work); the ties are given (YtdfoffheolbokaaDoorTie.lean); close each card by the builder's one call (the guide's Derived/Test/ToyasCard.lean, 'card_holds'). Laid BY PROGRAM, IN A SANDBOX (cutbox-door.mjs). By AI agents, Wed Nov 11 2026. No macro, syntax, notation, axiom, sorry.
-/
import Derived.Test.YtdfoffheolbokaaDoorRows
import GoSem.ClaimSeven
namespace Go.Proofs.YtdfoffheolbokaaDoor
namespace Rows

/-- THE TIED CARD OF 'fareboxlaw16.MerkleTrees'. -/
def merkleTreesCard : Claim7 := { stood := { row := merkleTreesRow, standIns := [], harness := (true, "742a79df7d9c805dd62a4955c1c29dc0d8787111bf8c6efa742f62d30ad2a722"), looks := false }, kinds := [], alts := [], laidByText := true, laidKinds := [.data, .data], laidTests := true, laidLooks := .later }
def MerkleTreesCardSaid : Prop := Claim7.holds Tryd.pinned (.plain (OpenSpec.ofChange merkleTreesSpec)) merkleTreesCard

/-- THE TIED CARD OF 'fareboxlaw16.MerkleFull'. -/
def merkleFullCard : Claim7 := { stood := { row := merkleFullRow, standIns := [], harness := (true, "742a79df7d9c805dd62a4955c1c29dc0d8787111bf8c6efa742f62d30ad2a722"), looks := false }, kinds := [], alts := [], laidByText := true, laidKinds := [.data, .data], laidTests := true, laidLooks := .later }
def MerkleFullCardSaid : Prop := Claim7.holds Tryd.pinned (.plain (OpenSpec.ofChange merkleFullSpec)) merkleFullCard

/-- THE TIED CARD OF 'fareboxlaw16.MerkleRoots'. -/
def merkleRootsCard : Claim7 := { stood := { row := merkleRootsRow, standIns := [], harness := (true, "742a79df7d9c805dd62a4955c1c29dc0d8787111bf8c6efa742f62d30ad2a722"), looks := false }, kinds := [], alts := [], laidByText := true, laidKinds := [.data, .data], laidTests := true, laidLooks := .later }
def MerkleRootsCardSaid : Prop := Claim7.holds Tryd.pinned (.plain (OpenSpec.ofChange merkleRootsSpec)) merkleRootsCard

/-- THE TIED CARD OF 'fareboxlaw16.MerkleBinds'. -/
def merkleBindsCard : Claim7 := { stood := { row := merkleBindsRow, standIns := [], harness := (true, "742a79df7d9c805dd62a4955c1c29dc0d8787111bf8c6efa742f62d30ad2a722"), looks := false }, kinds := [], alts := [], laidByText := true, laidKinds := [.data, .data], laidTests := true, laidLooks := .later }
def MerkleBindsCardSaid : Prop := Claim7.holds Tryd.pinned (.plain (OpenSpec.ofChange merkleBindsSpec)) merkleBindsCard

/-- THE TIED CARD OF 'fareboxlaw16.MerkleLong'. -/
def merkleLongCard : Claim7 := { stood := { row := merkleLongRow, standIns := [], harness := (true, "742a79df7d9c805dd62a4955c1c29dc0d8787111bf8c6efa742f62d30ad2a722"), looks := false }, kinds := [], alts := [], laidByText := true, laidKinds := [.data, .data], laidTests := true, laidLooks := .later }
def MerkleLongCardSaid : Prop := Claim7.holds Tryd.pinned (.plain (OpenSpec.ofChange merkleLongSpec)) merkleLongCard

/-- THE TIED CARD OF 'fareboxlaw16.MerkleGrows'. -/
def merkleGrowsCard : Claim7 := { stood := { row := merkleGrowsRow, standIns := [], harness := (true, "742a79df7d9c805dd62a4955c1c29dc0d8787111bf8c6efa742f62d30ad2a722"), looks := false }, kinds := [], alts := [], laidByText := true, laidKinds := [.data, .data], laidTests := true, laidLooks := .later }
def MerkleGrowsCardSaid : Prop := Claim7.holds Tryd.pinned (.plain (OpenSpec.ofChange merkleGrowsSpec)) merkleGrowsCard

/-- THE TIED CARD OF 'fareboxlaw16.MerkleProves'. -/
def merkleProvesCard : Claim7 := { stood := { row := merkleProvesRow, standIns := [], harness := (true, "742a79df7d9c805dd62a4955c1c29dc0d8787111bf8c6efa742f62d30ad2a722"), looks := false }, kinds := [], alts := [], laidByText := true, laidKinds := [.data, .data], laidTests := true, laidLooks := .later }
def MerkleProvesCardSaid : Prop := Claim7.holds Tryd.pinned (.plain (OpenSpec.ofChange merkleProvesSpec)) merkleProvesCard

/-- THE TIED CARD OF 'fareboxlaw16.MerkleExact'. -/
def merkleExactCard : Claim7 := { stood := { row := merkleExactRow, standIns := [], harness := (true, "742a79df7d9c805dd62a4955c1c29dc0d8787111bf8c6efa742f62d30ad2a722"), looks := false }, kinds := [], alts := [], laidByText := true, laidKinds := [.data, .data], laidTests := true, laidLooks := .later }
def MerkleExactCardSaid : Prop := Claim7.holds Tryd.pinned (.plain (OpenSpec.ofChange merkleExactSpec)) merkleExactCard

/-- THE SECOND FORM's CARD OF 'fareboxlaw16.MerkleTrees'. -/
def merkleTreesUptoCard : Claim7 := { stood := { row := merkleTreesUptoRow, standIns := [], harness := (true, "742a79df7d9c805dd62a4955c1c29dc0d8787111bf8c6efa742f62d30ad2a722"), looks := false }, kinds := [], alts := [], laidByText := true, laidKinds := [.data, .data], laidTests := true, laidLooks := .later }
def MerkleTreesUptoCardSaid : Prop := Claim7.holds Tryd.pinned (.plain (OpenSpec.upto merkleTreesSpec)) merkleTreesUptoCard

/-- THE SECOND FORM's CARD OF 'fareboxlaw16.MerkleFull'. -/
def merkleFullUptoCard : Claim7 := { stood := { row := merkleFullUptoRow, standIns := [], harness := (true, "742a79df7d9c805dd62a4955c1c29dc0d8787111bf8c6efa742f62d30ad2a722"), looks := false }, kinds := [], alts := [], laidByText := true, laidKinds := [.data, .data], laidTests := true, laidLooks := .later }
def MerkleFullUptoCardSaid : Prop := Claim7.holds Tryd.pinned (.plain (OpenSpec.upto merkleFullSpec)) merkleFullUptoCard

/-- THE SECOND FORM's CARD OF 'fareboxlaw16.MerkleRoots'. -/
def merkleRootsUptoCard : Claim7 := { stood := { row := merkleRootsUptoRow, standIns := [], harness := (true, "742a79df7d9c805dd62a4955c1c29dc0d8787111bf8c6efa742f62d30ad2a722"), looks := false }, kinds := [], alts := [], laidByText := true, laidKinds := [.data, .data], laidTests := true, laidLooks := .later }
def MerkleRootsUptoCardSaid : Prop := Claim7.holds Tryd.pinned (.plain (OpenSpec.upto merkleRootsSpec)) merkleRootsUptoCard

/-- THE SECOND FORM's CARD OF 'fareboxlaw16.MerkleBinds'. -/
def merkleBindsUptoCard : Claim7 := { stood := { row := merkleBindsUptoRow, standIns := [], harness := (true, "742a79df7d9c805dd62a4955c1c29dc0d8787111bf8c6efa742f62d30ad2a722"), looks := false }, kinds := [], alts := [], laidByText := true, laidKinds := [.data, .data], laidTests := true, laidLooks := .later }
def MerkleBindsUptoCardSaid : Prop := Claim7.holds Tryd.pinned (.plain (OpenSpec.upto merkleBindsSpec)) merkleBindsUptoCard

/-- THE SECOND FORM's CARD OF 'fareboxlaw16.MerkleLong'. -/
def merkleLongUptoCard : Claim7 := { stood := { row := merkleLongUptoRow, standIns := [], harness := (true, "742a79df7d9c805dd62a4955c1c29dc0d8787111bf8c6efa742f62d30ad2a722"), looks := false }, kinds := [], alts := [], laidByText := true, laidKinds := [.data, .data], laidTests := true, laidLooks := .later }
def MerkleLongUptoCardSaid : Prop := Claim7.holds Tryd.pinned (.plain (OpenSpec.upto merkleLongSpec)) merkleLongUptoCard

/-- THE SECOND FORM's CARD OF 'fareboxlaw16.MerkleGrows'. -/
def merkleGrowsUptoCard : Claim7 := { stood := { row := merkleGrowsUptoRow, standIns := [], harness := (true, "742a79df7d9c805dd62a4955c1c29dc0d8787111bf8c6efa742f62d30ad2a722"), looks := false }, kinds := [], alts := [], laidByText := true, laidKinds := [.data, .data], laidTests := true, laidLooks := .later }
def MerkleGrowsUptoCardSaid : Prop := Claim7.holds Tryd.pinned (.plain (OpenSpec.upto merkleGrowsSpec)) merkleGrowsUptoCard

/-- THE SECOND FORM's CARD OF 'fareboxlaw16.MerkleProves'. -/
def merkleProvesUptoCard : Claim7 := { stood := { row := merkleProvesUptoRow, standIns := [], harness := (true, "742a79df7d9c805dd62a4955c1c29dc0d8787111bf8c6efa742f62d30ad2a722"), looks := false }, kinds := [], alts := [], laidByText := true, laidKinds := [.data, .data], laidTests := true, laidLooks := .later }
def MerkleProvesUptoCardSaid : Prop := Claim7.holds Tryd.pinned (.plain (OpenSpec.upto merkleProvesSpec)) merkleProvesUptoCard

/-- THE SECOND FORM's CARD OF 'fareboxlaw16.MerkleExact'. -/
def merkleExactUptoCard : Claim7 := { stood := { row := merkleExactUptoRow, standIns := [], harness := (true, "742a79df7d9c805dd62a4955c1c29dc0d8787111bf8c6efa742f62d30ad2a722"), looks := false }, kinds := [], alts := [], laidByText := true, laidKinds := [.data, .data], laidTests := true, laidLooks := .later }
def MerkleExactUptoCardSaid : Prop := Claim7.holds Tryd.pinned (.plain (OpenSpec.upto merkleExactSpec)) merkleExactUptoCard
end Rows
end Go.Proofs.YtdfoffheolbokaaDoor
