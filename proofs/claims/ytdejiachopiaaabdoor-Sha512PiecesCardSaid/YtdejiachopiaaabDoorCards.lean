/-
  DERIVED. GIVEN WITH THE SEED: THE CARDS: each row of YtdejiachopiaaabDoorRows.lean that lists a variable, with what it lists TIED to the program's text (the seventh form; the later family's looks); each row that meets fmt, with fmt's text TOLD by the authors' own Lean function (tested against real Go, not proved from fmt's source: count such statements apart). THE CARD IS WHAT COUNTS. Prove the row's statement (the work); the ties are given (YtdejiachopiaaabDoorTie.lean); close each card by the builder's one call (the guide's Derived/Test/ToyasCard.lean, 'card_holds'). Laid BY PROGRAM, IN A SANDBOX (cutbox-door.mjs). By AI agents, Wed Nov 11 2026. No macro, syntax, notation, axiom, sorry.
-/
import Derived.Test.YtdejiachopiaaabDoorRows
import GoSem.ClaimSeven
namespace Go.Proofs.YtdejiachopiaaabDoor
namespace Rows

/-- THE TIED CARD OF 'fareboxlaw03.Sha512Printed'. -/
def sha512PrintedCard : Claim7 := { stood := { row := sha512PrintedRow, standIns := [], harness := (true, "2a44ad8294d1821be42ccd915c356bb49c09e15db6dded2852cba2dd1e6a6b68"), looks := false }, kinds := [], alts := [], laidByText := true, laidKinds := [.data, .data], laidTests := true, laidLooks := .later }
def Sha512PrintedCardSaid : Prop := Claim7.holds Tryd.pinned (.plain (OpenSpec.ofChange sha512PrintedSpec)) sha512PrintedCard

/-- THE TIED CARD OF 'fareboxlaw03.Sha512Sums'. -/
def sha512SumsCard : Claim7 := { stood := { row := sha512SumsRow, standIns := [], harness := (true, "2a44ad8294d1821be42ccd915c356bb49c09e15db6dded2852cba2dd1e6a6b68"), looks := false }, kinds := [], alts := [], laidByText := true, laidKinds := [.data, .data, .data, .data], laidTests := true, laidLooks := .later }
def Sha512SumsCardSaid : Prop := Claim7.holds Tryd.pinned (.plain (OpenSpec.ofChange sha512SumsSpec)) sha512SumsCard

/-- THE TIED CARD OF 'fareboxlaw03.Sha512Folds'. -/
def sha512FoldsCard : Claim7 := { stood := { row := sha512FoldsRow, standIns := [], harness := (true, "2a44ad8294d1821be42ccd915c356bb49c09e15db6dded2852cba2dd1e6a6b68"), looks := false }, kinds := [], alts := [], laidByText := true, laidKinds := [.data, .data, .data], laidTests := true, laidLooks := .later }
def Sha512FoldsCardSaid : Prop := Claim7.holds Tryd.pinned (.plain (OpenSpec.ofChange sha512FoldsSpec)) sha512FoldsCard

/-- THE TIED CARD OF 'fareboxlaw03.Sha512Pieces'. -/
def sha512PiecesCard : Claim7 := { stood := { row := sha512PiecesRow, standIns := [], harness := (true, "2a44ad8294d1821be42ccd915c356bb49c09e15db6dded2852cba2dd1e6a6b68"), looks := false }, kinds := [], alts := [], laidByText := true, laidKinds := [.data, .data], laidTests := true, laidLooks := .later }
def Sha512PiecesCardSaid : Prop := Claim7.holds Tryd.pinned (.plain (OpenSpec.ofChange sha512PiecesSpec)) sha512PiecesCard

/-- THE SECOND FORM's CARD OF 'fareboxlaw03.Sha512Printed'. -/
def sha512PrintedUptoCard : Claim7 := { stood := { row := sha512PrintedUptoRow, standIns := [], harness := (true, "2a44ad8294d1821be42ccd915c356bb49c09e15db6dded2852cba2dd1e6a6b68"), looks := false }, kinds := [], alts := [], laidByText := true, laidKinds := [.data, .data], laidTests := true, laidLooks := .later }
def Sha512PrintedUptoCardSaid : Prop := Claim7.holds Tryd.pinned (.plain (OpenSpec.upto sha512PrintedSpec)) sha512PrintedUptoCard

/-- THE SECOND FORM's CARD OF 'fareboxlaw03.Sha512Sums'. -/
def sha512SumsUptoCard : Claim7 := { stood := { row := sha512SumsUptoRow, standIns := [], harness := (true, "2a44ad8294d1821be42ccd915c356bb49c09e15db6dded2852cba2dd1e6a6b68"), looks := false }, kinds := [], alts := [], laidByText := true, laidKinds := [.data, .data, .data, .data], laidTests := true, laidLooks := .later }
def Sha512SumsUptoCardSaid : Prop := Claim7.holds Tryd.pinned (.plain (OpenSpec.upto sha512SumsSpec)) sha512SumsUptoCard

/-- THE SECOND FORM's CARD OF 'fareboxlaw03.Sha512Folds'. -/
def sha512FoldsUptoCard : Claim7 := { stood := { row := sha512FoldsUptoRow, standIns := [], harness := (true, "2a44ad8294d1821be42ccd915c356bb49c09e15db6dded2852cba2dd1e6a6b68"), looks := false }, kinds := [], alts := [], laidByText := true, laidKinds := [.data, .data, .data], laidTests := true, laidLooks := .later }
def Sha512FoldsUptoCardSaid : Prop := Claim7.holds Tryd.pinned (.plain (OpenSpec.upto sha512FoldsSpec)) sha512FoldsUptoCard

/-- THE SECOND FORM's CARD OF 'fareboxlaw03.Sha512Pieces'. -/
def sha512PiecesUptoCard : Claim7 := { stood := { row := sha512PiecesUptoRow, standIns := [], harness := (true, "2a44ad8294d1821be42ccd915c356bb49c09e15db6dded2852cba2dd1e6a6b68"), looks := false }, kinds := [], alts := [], laidByText := true, laidKinds := [.data, .data], laidTests := true, laidLooks := .later }
def Sha512PiecesUptoCardSaid : Prop := Claim7.holds Tryd.pinned (.plain (OpenSpec.upto sha512PiecesSpec)) sha512PiecesUptoCard
end Rows
end Go.Proofs.YtdejiachopiaaabDoor
