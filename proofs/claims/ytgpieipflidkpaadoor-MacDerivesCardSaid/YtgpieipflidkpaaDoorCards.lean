/-
  DERIVED. GIVEN WITH THE SEED: THE CARDS: each row of YtgpieipflidkpaaDoorRows.lean that lists a variable, with what it lists TIED to the program's text (the seventh form; the later family's looks); each row that meets fmt, with fmt's text TOLD by the authors' own Lean function (tested against real Go, not proved from fmt's source: count such statements apart). THE CARD IS WHAT COUNTS. Prove the row's statement (the work); the ties are given (YtgpieipflidkpaaDoorTie.lean); close each card by the builder's one call (the guide's Derived/Test/ToyasCard.lean, 'card_holds'). Laid BY PROGRAM, IN A SANDBOX (cutbox-door.mjs). By AI agents, Wed Nov 11 2026. No macro, syntax, notation, axiom, sorry.
-/
import Derived.Test.YtgpieipflidkpaaDoorRows
import GoSem.ClaimSeven
namespace Go.Proofs.YtgpieipflidkpaaDoor
namespace Rows

/-- THE TIED CARD OF 'fareboxlaw04.MacExpands'. -/
def macExpandsCard : Claim7 := { stood := { row := macExpandsRow, standIns := [], harness := (true, "5953f6aa574f47eae03c8435f15e5b9018f6e434568e282b975624bb7c6b2218"), looks := false }, kinds := [], alts := [], laidByText := true, laidKinds := [.data, .data], laidTests := true, laidLooks := .later }
def MacExpandsCardSaid : Prop := Claim7.holds Tryd.pinned (.plain (OpenSpec.ofChange macExpandsSpec)) macExpandsCard

/-- THE TIED CARD OF 'fareboxlaw04.MacDerives'. -/
def macDerivesCard : Claim7 := { stood := { row := macDerivesRow, standIns := [], harness := (true, "5953f6aa574f47eae03c8435f15e5b9018f6e434568e282b975624bb7c6b2218"), looks := false }, kinds := [], alts := [], laidByText := true, laidKinds := [.data, .data], laidTests := true, laidLooks := .later }
def MacDerivesCardSaid : Prop := Claim7.holds Tryd.pinned (.plain (OpenSpec.ofChange macDerivesSpec)) macDerivesCard

/-- THE TIED CARD OF 'fareboxlaw04.MacKeys'. -/
def macKeysCard : Claim7 := { stood := { row := macKeysRow, standIns := [], harness := (true, "5953f6aa574f47eae03c8435f15e5b9018f6e434568e282b975624bb7c6b2218"), looks := false }, kinds := [], alts := [], laidByText := true, laidKinds := [.data, .data, .data, .data], laidTests := true, laidLooks := .later }
def MacKeysCardSaid : Prop := Claim7.holds Tryd.pinned (.plain (OpenSpec.ofChange macKeysSpec)) macKeysCard

/-- THE TIED CARD OF 'fareboxlaw04.MacIs'. -/
def macIsCard : Claim7 := { stood := { row := macIsRow, standIns := [], harness := (true, "5953f6aa574f47eae03c8435f15e5b9018f6e434568e282b975624bb7c6b2218"), looks := false }, kinds := [], alts := [], laidByText := true, laidKinds := [.data, .data, .data, .data], laidTests := true, laidLooks := .later }
def MacIsCardSaid : Prop := Claim7.holds Tryd.pinned (.plain (OpenSpec.ofChange macIsSpec)) macIsCard

/-- THE TIED CARD OF 'fareboxlaw04.MacExact'. -/
def macExactCard : Claim7 := { stood := { row := macExactRow, standIns := [], harness := (true, "5953f6aa574f47eae03c8435f15e5b9018f6e434568e282b975624bb7c6b2218"), looks := false }, kinds := [], alts := [], laidByText := true, laidKinds := [.data, .data, .data, .data, .data, .data], laidTests := true, laidLooks := .later }
def MacExactCardSaid : Prop := Claim7.holds Tryd.pinned (.plain (OpenSpec.ofChange macExactSpec)) macExactCard

/-- THE SECOND FORM's CARD OF 'fareboxlaw04.MacExpands'. -/
def macExpandsUptoCard : Claim7 := { stood := { row := macExpandsUptoRow, standIns := [], harness := (true, "5953f6aa574f47eae03c8435f15e5b9018f6e434568e282b975624bb7c6b2218"), looks := false }, kinds := [], alts := [], laidByText := true, laidKinds := [.data, .data], laidTests := true, laidLooks := .later }
def MacExpandsUptoCardSaid : Prop := Claim7.holds Tryd.pinned (.plain (OpenSpec.upto macExpandsSpec)) macExpandsUptoCard

/-- THE SECOND FORM's CARD OF 'fareboxlaw04.MacDerives'. -/
def macDerivesUptoCard : Claim7 := { stood := { row := macDerivesUptoRow, standIns := [], harness := (true, "5953f6aa574f47eae03c8435f15e5b9018f6e434568e282b975624bb7c6b2218"), looks := false }, kinds := [], alts := [], laidByText := true, laidKinds := [.data, .data], laidTests := true, laidLooks := .later }
def MacDerivesUptoCardSaid : Prop := Claim7.holds Tryd.pinned (.plain (OpenSpec.upto macDerivesSpec)) macDerivesUptoCard

/-- THE SECOND FORM's CARD OF 'fareboxlaw04.MacKeys'. -/
def macKeysUptoCard : Claim7 := { stood := { row := macKeysUptoRow, standIns := [], harness := (true, "5953f6aa574f47eae03c8435f15e5b9018f6e434568e282b975624bb7c6b2218"), looks := false }, kinds := [], alts := [], laidByText := true, laidKinds := [.data, .data, .data, .data], laidTests := true, laidLooks := .later }
def MacKeysUptoCardSaid : Prop := Claim7.holds Tryd.pinned (.plain (OpenSpec.upto macKeysSpec)) macKeysUptoCard

/-- THE SECOND FORM's CARD OF 'fareboxlaw04.MacIs'. -/
def macIsUptoCard : Claim7 := { stood := { row := macIsUptoRow, standIns := [], harness := (true, "5953f6aa574f47eae03c8435f15e5b9018f6e434568e282b975624bb7c6b2218"), looks := false }, kinds := [], alts := [], laidByText := true, laidKinds := [.data, .data, .data, .data], laidTests := true, laidLooks := .later }
def MacIsUptoCardSaid : Prop := Claim7.holds Tryd.pinned (.plain (OpenSpec.upto macIsSpec)) macIsUptoCard

/-- THE SECOND FORM's CARD OF 'fareboxlaw04.MacExact'. -/
def macExactUptoCard : Claim7 := { stood := { row := macExactUptoRow, standIns := [], harness := (true, "5953f6aa574f47eae03c8435f15e5b9018f6e434568e282b975624bb7c6b2218"), looks := false }, kinds := [], alts := [], laidByText := true, laidKinds := [.data, .data, .data, .data, .data, .data], laidTests := true, laidLooks := .later }
def MacExactUptoCardSaid : Prop := Claim7.holds Tryd.pinned (.plain (OpenSpec.upto macExactSpec)) macExactUptoCard
end Rows
end Go.Proofs.YtgpieipflidkpaaDoor
