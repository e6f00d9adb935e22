/-
  DERIVED. GIVEN WITH THE SEED: THE CARDS: each row of YtldhjpliknfhiaaDoorRows.lean that lists a variable, with what it lists TIED to the program's text (the seventh form; the later family's looks); each row that meets fmt, with fmt's text TOLD by the authors' own Lean function (tested against real Go, not proved from fmt's source: count such statements apart). THE CARD IS WHAT COUNTS. Prove the row's statement (the work); the ties are given (YtldhjpliknfhiaaDoorTie.lean); close each card by the builder's one call (the guide's Derived/Test/ToyasCard.lean, 'card_holds'). Laid BY PROGRAM, IN A SANDBOX (cutbox-door.mjs). By AI agents, Wed Nov 11 2026. No macro, syntax, notation, axiom, sorry.
-/
import Derived.Test.YtldhjpliknfhiaaDoorRows
import GoSem.ClaimSeven
namespace Go.Proofs.YtldhjpliknfhiaaDoor
namespace Rows

/-- THE TIED CARD OF 'fareboxlaw15.ChainSteps'. -/
def chainStepsCard : Claim7 := { stood := { row := chainStepsRow, standIns := [], harness := (true, "8ecd097ec57e6b17059a7b8e8966f8f9cd74f8041b6c711c00e6b251ec3d3ce3"), looks := false }, kinds := [], alts := [], laidByText := true, laidKinds := [.data, .data], laidTests := true, laidLooks := .later }
def ChainStepsCardSaid : Prop := Claim7.holds Tryd.pinned (.plain (OpenSpec.ofChange chainStepsSpec)) chainStepsCard

/-- THE TIED CARD OF 'fareboxlaw15.ChainAddsUp'. -/
def chainAddsUpCard : Claim7 := { stood := { row := chainAddsUpRow, standIns := [], harness := (true, "8ecd097ec57e6b17059a7b8e8966f8f9cd74f8041b6c711c00e6b251ec3d3ce3"), looks := false }, kinds := [], alts := [], laidByText := true, laidKinds := [.data, .data], laidTests := true, laidLooks := .later }
def ChainAddsUpCardSaid : Prop := Claim7.holds Tryd.pinned (.plain (OpenSpec.ofChange chainAddsUpSpec)) chainAddsUpCard

/-- THE TIED CARD OF 'fareboxlaw15.ChainValues'. -/
def chainValuesCard : Claim7 := { stood := { row := chainValuesRow, standIns := [], harness := (true, "8ecd097ec57e6b17059a7b8e8966f8f9cd74f8041b6c711c00e6b251ec3d3ce3"), looks := false }, kinds := [], alts := [], laidByText := true, laidKinds := [.data, .data], laidTests := true, laidLooks := .later }
def ChainValuesCardSaid : Prop := Claim7.holds Tryd.pinned (.plain (OpenSpec.ofChange chainValuesSpec)) chainValuesCard

/-- THE TIED CARD OF 'fareboxlaw15.ChainChecks'. -/
def chainChecksCard : Claim7 := { stood := { row := chainChecksRow, standIns := [], harness := (true, "8ecd097ec57e6b17059a7b8e8966f8f9cd74f8041b6c711c00e6b251ec3d3ce3"), looks := false }, kinds := [], alts := [], laidByText := true, laidKinds := [.data, .data], laidTests := true, laidLooks := .later }
def ChainChecksCardSaid : Prop := Claim7.holds Tryd.pinned (.plain (OpenSpec.ofChange chainChecksSpec)) chainChecksCard

/-- THE TIED CARD OF 'fareboxlaw15.ChainShortcut'. -/
def chainShortcutCard : Claim7 := { stood := { row := chainShortcutRow, standIns := [], harness := (true, "8ecd097ec57e6b17059a7b8e8966f8f9cd74f8041b6c711c00e6b251ec3d3ce3"), looks := false }, kinds := [], alts := [], laidByText := true, laidKinds := [.data, .data], laidTests := true, laidLooks := .later }
def ChainShortcutCardSaid : Prop := Claim7.holds Tryd.pinned (.plain (OpenSpec.ofChange chainShortcutSpec)) chainShortcutCard

/-- THE TIED CARD OF 'fareboxlaw15.ChainLeads'. -/
def chainLeadsCard : Claim7 := { stood := { row := chainLeadsRow, standIns := [], harness := (true, "8ecd097ec57e6b17059a7b8e8966f8f9cd74f8041b6c711c00e6b251ec3d3ce3"), looks := false }, kinds := [], alts := [], laidByText := true, laidKinds := [.data, .data], laidTests := true, laidLooks := .later }
def ChainLeadsCardSaid : Prop := Claim7.holds Tryd.pinned (.plain (OpenSpec.ofChange chainLeadsSpec)) chainLeadsCard

/-- THE TIED CARD OF 'fareboxlaw15.ChainWalks'. -/
def chainWalksCard : Claim7 := { stood := { row := chainWalksRow, standIns := [], harness := (true, "8ecd097ec57e6b17059a7b8e8966f8f9cd74f8041b6c711c00e6b251ec3d3ce3"), looks := false }, kinds := [], alts := [], laidByText := true, laidKinds := [.data, .data], laidTests := true, laidLooks := .later }
def ChainWalksCardSaid : Prop := Claim7.holds Tryd.pinned (.plain (OpenSpec.ofChange chainWalksSpec)) chainWalksCard

/-- THE TIED CARD OF 'fareboxlaw15.ChainWalkersApart'. -/
def chainWalkersApartCard : Claim7 := { stood := { row := chainWalkersApartRow, standIns := [], harness := (true, "8ecd097ec57e6b17059a7b8e8966f8f9cd74f8041b6c711c00e6b251ec3d3ce3"), looks := false }, kinds := [], alts := [], laidByText := true, laidKinds := [.data, .data], laidTests := true, laidLooks := .later }
def ChainWalkersApartCardSaid : Prop := Claim7.holds Tryd.pinned (.plain (OpenSpec.ofChange chainWalkersApartSpec)) chainWalkersApartCard

/-- THE TIED CARD OF 'fareboxlaw15.ChainThrift'. -/
def chainThriftCard : Claim7 := { stood := { row := chainThriftRow, standIns := [], harness := (true, "8ecd097ec57e6b17059a7b8e8966f8f9cd74f8041b6c711c00e6b251ec3d3ce3"), looks := false }, kinds := [], alts := [], laidByText := true, laidKinds := [.data, .data], laidTests := true, laidLooks := .later }
def ChainThriftCardSaid : Prop := Claim7.holds Tryd.pinned (.plain (OpenSpec.ofChange chainThriftSpec)) chainThriftCard

/-- THE SECOND FORM's CARD OF 'fareboxlaw15.ChainSteps'. -/
def chainStepsUptoCard : Claim7 := { stood := { row := chainStepsUptoRow, standIns := [], harness := (true, "8ecd097ec57e6b17059a7b8e8966f8f9cd74f8041b6c711c00e6b251ec3d3ce3"), looks := false }, kinds := [], alts := [], laidByText := true, laidKinds := [.data, .data], laidTests := true, laidLooks := .later }
def ChainStepsUptoCardSaid : Prop := Claim7.holds Tryd.pinned (.plain (OpenSpec.upto chainStepsSpec)) chainStepsUptoCard

/-- THE SECOND FORM's CARD OF 'fareboxlaw15.ChainAddsUp'. -/
def chainAddsUpUptoCard : Claim7 := { stood := { row := chainAddsUpUptoRow, standIns := [], harness := (true, "8ecd097ec57e6b17059a7b8e8966f8f9cd74f8041b6c711c00e6b251ec3d3ce3"), looks := false }, kinds := [], alts := [], laidByText := true, laidKinds := [.data, .data], laidTests := true, laidLooks := .later }
def ChainAddsUpUptoCardSaid : Prop := Claim7.holds Tryd.pinned (.plain (OpenSpec.upto chainAddsUpSpec)) chainAddsUpUptoCard

/-- THE SECOND FORM's CARD OF 'fareboxlaw15.ChainValues'. -/
def chainValuesUptoCard : Claim7 := { stood := { row := chainValuesUptoRow, standIns := [], harness := (true, "8ecd097ec57e6b17059a7b8e8966f8f9cd74f8041b6c711c00e6b251ec3d3ce3"), looks := false }, kinds := [], alts := [], laidByText := true, laidKinds := [.data, .data], laidTests := true, laidLooks := .later }
def ChainValuesUptoCardSaid : Prop := Claim7.holds Tryd.pinned (.plain (OpenSpec.upto chainValuesSpec)) chainValuesUptoCard

/-- THE SECOND FORM's CARD OF 'fareboxlaw15.ChainChecks'. -/
def chainChecksUptoCard : Claim7 := { stood := { row := chainChecksUptoRow, standIns := [], harness := (true, "8ecd097ec57e6b17059a7b8e8966f8f9cd74f8041b6c711c00e6b251ec3d3ce3"), looks := false }, kinds := [], alts := [], laidByText := true, laidKinds := [.data, .data], laidTests := true, laidLooks := .later }
def ChainChecksUptoCardSaid : Prop := Claim7.holds Tryd.pinned (.plain (OpenSpec.upto chainChecksSpec)) chainChecksUptoCard

/-- THE SECOND FORM's CARD OF 'fareboxlaw15.ChainShortcut'. -/
def chainShortcutUptoCard : Claim7 := { stood := { row := chainShortcutUptoRow, standIns := [], harness := (true, "8ecd097ec57e6b17059a7b8e8966f8f9cd74f8041b6c711c00e6b251ec3d3ce3"), looks := false }, kinds := [], alts := [], laidByText := true, laidKinds := [.data, .data], laidTests := true, laidLooks := .later }
def ChainShortcutUptoCardSaid : Prop := Claim7.holds Tryd.pinned (.plain (OpenSpec.upto chainShortcutSpec)) chainShortcutUptoCard

/-- THE SECOND FORM's CARD OF 'fareboxlaw15.ChainLeads'. -/
def chainLeadsUptoCard : Claim7 := { stood := { row := chainLeadsUptoRow, standIns := [], harness := (true, "8ecd097ec57e6b17059a7b8e8966f8f9cd74f8041b6c711c00e6b251ec3d3ce3"), looks := false }, kinds := [], alts := [], laidByText := true, laidKinds := [.data, .data], laidTests := true, laidLooks := .later }
def ChainLeadsUptoCardSaid : Prop := Claim7.holds Tryd.pinned (.plain (OpenSpec.upto chainLeadsSpec)) chainLeadsUptoCard

/-- THE SECOND FORM's CARD OF 'fareboxlaw15.ChainWalks'. -/
def chainWalksUptoCard : Claim7 := { stood := { row := chainWalksUptoRow, standIns := [], harness := (true, "8ecd097ec57e6b17059a7b8e8966f8f9cd74f8041b6c711c00e6b251ec3d3ce3"), looks := false }, kinds := [], alts := [], laidByText := true, laidKinds := [.data, .data], laidTests := true, laidLooks := .later }
def ChainWalksUptoCardSaid : Prop := Claim7.holds Tryd.pinned (.plain (OpenSpec.upto chainWalksSpec)) chainWalksUptoCard

/-- THE SECOND FORM's CARD OF 'fareboxlaw15.ChainWalkersApart'. -/
def chainWalkersApartUptoCard : Claim7 := { stood := { row := chainWalkersApartUptoRow, standIns := [], harness := (true, "8ecd097ec57e6b17059a7b8e8966f8f9cd74f8041b6c711c00e6b251ec3d3ce3"), looks := false }, kinds := [], alts := [], laidByText := true, laidKinds := [.data, .data], laidTests := true, laidLooks := .later }
def ChainWalkersApartUptoCardSaid : Prop := Claim7.holds Tryd.pinned (.plain (OpenSpec.upto chainWalkersApartSpec)) chainWalkersApartUptoCard

/-- THE SECOND FORM's CARD OF 'fareboxlaw15.ChainThrift'. -/
def chainThriftUptoCard : Claim7 := { stood := { row := chainThriftUptoRow, standIns := [], harness := (true, "8ecd097ec57e6b17059a7b8e8966f8f9cd74f8041b6c711c00e6b251ec3d3ce3"), looks := false }, kinds := [], alts := [], laidByText := true, laidKinds := [.data, .data], laidTests := true, laidLooks := .later }
def ChainThriftUptoCardSaid : Prop := Claim7.holds Tryd.pinned (.plain (OpenSpec.upto chainThriftSpec)) chainThriftUptoCard
end Rows
end Go.Proofs.YtldhjpliknfhiaaDoor
