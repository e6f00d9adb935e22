/-
  DERIVED. GIVEN WITH THE SEED: THE CARDS: each row of YtdejiachopiaaaaDoorRows.lean that lists a variable, with what it lists TIED to the program's text (the seventh form; the later family's looks); each row that meets fmt, with fmt's text TOLD by the authors' own Lean function (tested against real Go, not proved from fmt's source: count such statements apart). THE CARD IS WHAT COUNTS. Prove the row's statement (the work); the ties are given (YtdejiachopiaaaaDoorTie.lean); close each card by the builder's one call (the guide's Derived/Test/ToyasCard.lean, 'card_holds'). Laid BY PROGRAM, IN A SANDBOX (cutbox-door.mjs). By AI agents, Wed Nov 11 2026. No macro, syntax, notation, axiom, sorry.
-/
import Derived.Test.YtdejiachopiaaaaDoorRows
import GoSem.ClaimSeven
namespace Go.Proofs.YtdejiachopiaaaaDoor
namespace Rows

/-- THE TIED CARD OF 'fareboxlaw03.Sha512Blocks'. -/
def sha512BlocksCard : Claim7 := { stood := { row := sha512BlocksRow, standIns := [], harness := (true, "b60fb6b0b8dc00079333a761b7a9496863378413fd21d616951e693b0c949952"), looks := false }, kinds := [], alts := [], laidByText := true, laidKinds := [.data, .data], laidTests := true, laidLooks := .later }
def Sha512BlocksCardSaid : Prop := Claim7.holds Tryd.pinned (.plain (OpenSpec.ofChange sha512BlocksSpec)) sha512BlocksCard

/-- THE TIED CARD OF 'fareboxlaw02.Sha256Blocks'. -/
def sha256BlocksCard : Claim7 := { stood := { row := sha256BlocksRow, standIns := [], harness := (true, "b60fb6b0b8dc00079333a761b7a9496863378413fd21d616951e693b0c949952"), looks := false }, kinds := [], alts := [], laidByText := true, laidKinds := [.data], laidTests := true, laidLooks := .later }
def Sha256BlocksCardSaid : Prop := Claim7.holds Tryd.pinned (.plain (OpenSpec.ofChange sha256BlocksSpec)) sha256BlocksCard

/-- THE TIED CARD OF 'fareboxlaw02.Sha256Sums'. -/
def sha256SumsCard : Claim7 := { stood := { row := sha256SumsRow, standIns := [], harness := (true, "b60fb6b0b8dc00079333a761b7a9496863378413fd21d616951e693b0c949952"), looks := false }, kinds := [], alts := [], laidByText := true, laidKinds := [.data, .data], laidTests := true, laidLooks := .later }
def Sha256SumsCardSaid : Prop := Claim7.holds Tryd.pinned (.plain (OpenSpec.ofChange sha256SumsSpec)) sha256SumsCard

/-- THE TIED CARD OF 'fareboxlaw02.Sha256Led'. -/
def sha256LedCard : Claim7 := { stood := { row := sha256LedRow, standIns := [], harness := (true, "b60fb6b0b8dc00079333a761b7a9496863378413fd21d616951e693b0c949952"), looks := false }, kinds := [], alts := [], laidByText := true, laidKinds := [.data, .data], laidTests := true, laidLooks := .later }
def Sha256LedCardSaid : Prop := Claim7.holds Tryd.pinned (.plain (OpenSpec.ofChange sha256LedSpec)) sha256LedCard

/-- THE TIED CARD OF 'fareboxlaw02.Sha256Digests'. -/
def sha256DigestsCard : Claim7 := { stood := { row := sha256DigestsRow, standIns := [], harness := (true, "b60fb6b0b8dc00079333a761b7a9496863378413fd21d616951e693b0c949952"), looks := false }, kinds := [], alts := [], laidByText := true, laidKinds := [.data, .data], laidTests := true, laidLooks := .later }
def Sha256DigestsCardSaid : Prop := Claim7.holds Tryd.pinned (.plain (OpenSpec.ofChange sha256DigestsSpec)) sha256DigestsCard

/-- THE TIED CARD OF 'fareboxlaw02.Sha256Pieces'. -/
def sha256PiecesCard : Claim7 := { stood := { row := sha256PiecesRow, standIns := [], harness := (true, "b60fb6b0b8dc00079333a761b7a9496863378413fd21d616951e693b0c949952"), looks := false }, kinds := [], alts := [], laidByText := true, laidKinds := [.data, .data], laidTests := true, laidLooks := .later }
def Sha256PiecesCardSaid : Prop := Claim7.holds Tryd.pinned (.plain (OpenSpec.ofChange sha256PiecesSpec)) sha256PiecesCard

/-- THE TIED CARD OF 'fareboxlaw03.Sha512Digests'. -/
def sha512DigestsCard : Claim7 := { stood := { row := sha512DigestsRow, standIns := [], harness := (true, "b60fb6b0b8dc00079333a761b7a9496863378413fd21d616951e693b0c949952"), looks := false }, kinds := [], alts := [], laidByText := true, laidKinds := [.data, .data, .data, .data], laidTests := true, laidLooks := .later }
def Sha512DigestsCardSaid : Prop := Claim7.holds Tryd.pinned (.plain (OpenSpec.ofChange sha512DigestsSpec)) sha512DigestsCard

/-- THE TIED CARD OF 'fareboxlaw02.Sha256Twins'. -/
def sha256TwinsCard : Claim7 := { stood := { row := sha256TwinsRow, standIns := [], harness := (true, "b60fb6b0b8dc00079333a761b7a9496863378413fd21d616951e693b0c949952"), looks := false }, kinds := [], alts := [], laidByText := true, laidKinds := [.data, .data], laidTests := true, laidLooks := .later }
def Sha256TwinsCardSaid : Prop := Claim7.holds Tryd.pinned (.plain (OpenSpec.ofChange sha256TwinsSpec)) sha256TwinsCard

/-- THE SECOND FORM's CARD OF 'fareboxlaw03.Sha512Blocks'. -/
def sha512BlocksUptoCard : Claim7 := { stood := { row := sha512BlocksUptoRow, standIns := [], harness := (true, "b60fb6b0b8dc00079333a761b7a9496863378413fd21d616951e693b0c949952"), looks := false }, kinds := [], alts := [], laidByText := true, laidKinds := [.data, .data], laidTests := true, laidLooks := .later }
def Sha512BlocksUptoCardSaid : Prop := Claim7.holds Tryd.pinned (.plain (OpenSpec.upto sha512BlocksSpec)) sha512BlocksUptoCard

/-- THE SECOND FORM's CARD OF 'fareboxlaw02.Sha256Blocks'. -/
def sha256BlocksUptoCard : Claim7 := { stood := { row := sha256BlocksUptoRow, standIns := [], harness := (true, "b60fb6b0b8dc00079333a761b7a9496863378413fd21d616951e693b0c949952"), looks := false }, kinds := [], alts := [], laidByText := true, laidKinds := [.data], laidTests := true, laidLooks := .later }
def Sha256BlocksUptoCardSaid : Prop := Claim7.holds Tryd.pinned (.plain (OpenSpec.upto sha256BlocksSpec)) sha256BlocksUptoCard

/-- THE SECOND FORM's CARD OF 'fareboxlaw02.Sha256Sums'. -/
def sha256SumsUptoCard : Claim7 := { stood := { row := sha256SumsUptoRow, standIns := [], harness := (true, "b60fb6b0b8dc00079333a761b7a9496863378413fd21d616951e693b0c949952"), looks := false }, kinds := [], alts := [], laidByText := true, laidKinds := [.data, .data], laidTests := true, laidLooks := .later }
def Sha256SumsUptoCardSaid : Prop := Claim7.holds Tryd.pinned (.plain (OpenSpec.upto sha256SumsSpec)) sha256SumsUptoCard

/-- THE SECOND FORM's CARD OF 'fareboxlaw02.Sha256Led'. -/
def sha256LedUptoCard : Claim7 := { stood := { row := sha256LedUptoRow, standIns := [], harness := (true, "b60fb6b0b8dc00079333a761b7a9496863378413fd21d616951e693b0c949952"), looks := false }, kinds := [], alts := [], laidByText := true, laidKinds := [.data, .data], laidTests := true, laidLooks := .later }
def Sha256LedUptoCardSaid : Prop := Claim7.holds Tryd.pinned (.plain (OpenSpec.upto sha256LedSpec)) sha256LedUptoCard

/-- THE SECOND FORM's CARD OF 'fareboxlaw02.Sha256Digests'. -/
def sha256DigestsUptoCard : Claim7 := { stood := { row := sha256DigestsUptoRow, standIns := [], harness := (true, "b60fb6b0b8dc00079333a761b7a9496863378413fd21d616951e693b0c949952"), looks := false }, kinds := [], alts := [], laidByText := true, laidKinds := [.data, .data], laidTests := true, laidLooks := .later }
def Sha256DigestsUptoCardSaid : Prop := Claim7.holds Tryd.pinned (.plain (OpenSpec.upto sha256DigestsSpec)) sha256DigestsUptoCard

/-- THE SECOND FORM's CARD OF 'fareboxlaw02.Sha256Pieces'. -/
def sha256PiecesUptoCard : Claim7 := { stood := { row := sha256PiecesUptoRow, standIns := [], harness := (true, "b60fb6b0b8dc00079333a761b7a9496863378413fd21d616951e693b0c949952"), looks := false }, kinds := [], alts := [], laidByText := true, laidKinds := [.data, .data], laidTests := true, laidLooks := .later }
def Sha256PiecesUptoCardSaid : Prop := Claim7.holds Tryd.pinned (.plain (OpenSpec.upto sha256PiecesSpec)) sha256PiecesUptoCard

/-- THE SECOND FORM's CARD OF 'fareboxlaw03.Sha512Digests'. -/
def sha512DigestsUptoCard : Claim7 := { stood := { row := sha512DigestsUptoRow, standIns := [], harness := (true, "b60fb6b0b8dc00079333a761b7a9496863378413fd21d616951e693b0c949952"), looks := false }, kinds := [], alts := [], laidByText := true, laidKinds := [.data, .data, .data, .data], laidTests := true, laidLooks := .later }
def Sha512DigestsUptoCardSaid : Prop := Claim7.holds Tryd.pinned (.plain (OpenSpec.upto sha512DigestsSpec)) sha512DigestsUptoCard

/-- THE SECOND FORM's CARD OF 'fareboxlaw02.Sha256Twins'. -/
def sha256TwinsUptoCard : Claim7 := { stood := { row := sha256TwinsUptoRow, standIns := [], harness := (true, "b60fb6b0b8dc00079333a761b7a9496863378413fd21d616951e693b0c949952"), looks := false }, kinds := [], alts := [], laidByText := true, laidKinds := [.data, .data], laidTests := true, laidLooks := .later }
def Sha256TwinsUptoCardSaid : Prop := Claim7.holds Tryd.pinned (.plain (OpenSpec.upto sha256TwinsSpec)) sha256TwinsUptoCard
end Rows
end Go.Proofs.YtdejiachopiaaaaDoor
