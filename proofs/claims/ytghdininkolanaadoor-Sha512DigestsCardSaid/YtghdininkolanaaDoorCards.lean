/-
  DERIVED. GIVEN WITH THE SEED: THE CARDS: each row of YtghdininkolanaaDoorRows.lean that lists a variable, with what it lists TIED to the program's text (the seventh form; the later family's looks); each row that meets fmt, with fmt's text TOLD by the authors' own Lean function (tested against real Go, not proved from fmt's source: count such statements apart). THE CARD IS WHAT COUNTS. Prove the row's statement (the work); the ties are given (YtghdininkolanaaDoorTie.lean); close each card by the builder's one call (the guide's Derived/Test/ToyasCard.lean, 'card_holds'). Laid BY PROGRAM, IN A SANDBOX (cutbox-door.mjs). By AI agents, Wed Nov 11 2026. No macro, syntax, notation, axiom, sorry.
-/
import Derived.Test.YtghdininkolanaaDoorRows
import GoSem.ClaimSeven
namespace Go.Proofs.YtghdininkolanaaDoor
namespace Rows

/-- THE TIED CARD OF 'fareboxlaw02.Sha256Digests'. -/
def sha256DigestsCard : Claim7 := { stood := { row := sha256DigestsRow, standIns := [], harness := (true, "166fbd986854d016d8c401f1260de1bd2dec9460acf100ecd35098851f4a5d07"), looks := false }, kinds := [], alts := [], laidByText := true, laidKinds := [.data, .data], laidTests := true, laidLooks := .later }
def Sha256DigestsCardSaid : Prop := Claim7.holds Tryd.pinned (.plain (OpenSpec.ofChange sha256DigestsSpec)) sha256DigestsCard

/-- THE TIED CARD OF 'fareboxlaw03.Sha512Digests'. -/
def sha512DigestsCard : Claim7 := { stood := { row := sha512DigestsRow, standIns := [], harness := (true, "166fbd986854d016d8c401f1260de1bd2dec9460acf100ecd35098851f4a5d07"), looks := false }, kinds := [], alts := [], laidByText := true, laidKinds := [.data, .data, .data, .data], laidTests := true, laidLooks := .later }
def Sha512DigestsCardSaid : Prop := Claim7.holds Tryd.pinned (.plain (OpenSpec.ofChange sha512DigestsSpec)) sha512DigestsCard

/-- THE TIED CARD OF 'fareboxlaw03.Sha512Printed'. -/
def sha512PrintedCard : Claim7 := { stood := { row := sha512PrintedRow, standIns := [], harness := (true, "166fbd986854d016d8c401f1260de1bd2dec9460acf100ecd35098851f4a5d07"), looks := false }, kinds := [], alts := [], laidByText := true, laidKinds := [.data, .data], laidTests := true, laidLooks := .later }
def Sha512PrintedCardSaid : Prop := Claim7.holds Tryd.pinned (.plain (OpenSpec.ofChange sha512PrintedSpec)) sha512PrintedCard

/-- THE SECOND FORM's CARD OF 'fareboxlaw02.Sha256Digests'. -/
def sha256DigestsUptoCard : Claim7 := { stood := { row := sha256DigestsUptoRow, standIns := [], harness := (true, "166fbd986854d016d8c401f1260de1bd2dec9460acf100ecd35098851f4a5d07"), looks := false }, kinds := [], alts := [], laidByText := true, laidKinds := [.data, .data], laidTests := true, laidLooks := .later }
def Sha256DigestsUptoCardSaid : Prop := Claim7.holds Tryd.pinned (.plain (OpenSpec.upto sha256DigestsSpec)) sha256DigestsUptoCard

/-- THE SECOND FORM's CARD OF 'fareboxlaw03.Sha512Digests'. -/
def sha512DigestsUptoCard : Claim7 := { stood := { row := sha512DigestsUptoRow, standIns := [], harness := (true, "166fbd986854d016d8c401f1260de1bd2dec9460acf100ecd35098851f4a5d07"), looks := false }, kinds := [], alts := [], laidByText := true, laidKinds := [.data, .data, .data, .data], laidTests := true, laidLooks := .later }
def Sha512DigestsUptoCardSaid : Prop := Claim7.holds Tryd.pinned (.plain (OpenSpec.upto sha512DigestsSpec)) sha512DigestsUptoCard

/-- THE SECOND FORM's CARD OF 'fareboxlaw03.Sha512Printed'. -/
def sha512PrintedUptoCard : Claim7 := { stood := { row := sha512PrintedUptoRow, standIns := [], harness := (true, "166fbd986854d016d8c401f1260de1bd2dec9460acf100ecd35098851f4a5d07"), looks := false }, kinds := [], alts := [], laidByText := true, laidKinds := [.data, .data], laidTests := true, laidLooks := .later }
def Sha512PrintedUptoCardSaid : Prop := Claim7.holds Tryd.pinned (.plain (OpenSpec.upto sha512PrintedSpec)) sha512PrintedUptoCard
end Rows
end Go.Proofs.YtghdininkolanaaDoor
