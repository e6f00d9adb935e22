/-
  No cell of these rows narrows 'for every input' (looked for: loops, veiled, ifaces, maps, wideKeys, modest, calm, conditions, laid).
  DERIVED. THE GIVEN ROWS OF THIS SEAT. 4 by the template 'for every input the law returns true; each argument reads behind the call as it read before'; 0 by the template 'total and deterministic' (their statements: YtjeddokenpkpnaaTotals.lean).
  GIVEN WITH THE SEED: the statements are not yours to turn. If you find one false, say at which input.
  Laid BY PROGRAM, IN A SANDBOX (cutbox-rows.mjs): the forced cells as the released guide's own fill.sh prints them over the translation 931e1b2efc75572b… (all of the seat's roots in one cut). By AI agents, Wed Nov 11 2026. No macro, syntax, notation, axiom, sorry.
-/
import Derived.Test.YtjeddokenpkpnaaChecked
import GoSem.Claim
import GoSem.ClaimJoined
import GoSem.ClaimMapViews
import Derived.JoinedTies
import Derived.KernelRfl
namespace Go.Proofs.Ytjeddokenpkpnaa
/- THE CELL 'sum', in the pinned program and in every row, IS THE sha256 OF THE DUMP (.gsa) THAT YtjeddokenpkpnaaProg.lean LOADS. Nothing in Lean hashes anything: it is a label: what it is worth is what the hold of that sum in a sandbox is worth. -/
noncomputable def Try.pinned : Pinned := { name := "ytjeddokenpkpnaa", sum := "931e1b2efc75572b758591453504866a69f129aaeb306574d56cdfe333e3a320", checked := Try.checked }
namespace Rows
def none {H : Type} : Left H := { results := [], args := [] }

/-- 'fareboxlaw24.BagAnyOrder': WHATEVER THE INPUT: true; the input reads as it did. -/
def bagAnyOrderSpec : ChangeSpec := { name := "bagAnyOrder", fn := fun _ => fun
  | [d1, d2] => { results := [.lit (.bool true)], args := [d1, d2] }
  | _ => none }
def bagAnyOrderRow : OpenClaim := { program := "ytjeddokenpkpnaa", sum := "931e1b2efc75572b758591453504866a69f129aaeb306574d56cdfe333e3a320", func := "farebox/fareboxlaw24.BagAnyOrder", spec := "bagAnyOrder", unfollowed := true, recurses := true, apart := false }
def BagAnyOrderSaid : Prop := bagAnyOrderRow.holds Try.pinned (OpenSpec.ofChange bagAnyOrderSpec)

/-- ITS FALSE NEIGHBOUR: 'it returns false'. Refute it at one input. -/
def bagAnyOrderWrong : ChangeSpec := { name := "bagAnyOrder", fn := fun _ => fun
  | [d1, d2] => { results := [.lit (.bool false)], args := [d1, d2] }
  | _ => none }
def BagAnyOrderWrongFalsely : Prop := bagAnyOrderRow.holds Try.pinned (OpenSpec.ofChange bagAnyOrderWrong)

/-- 'fareboxlaw24.BagExact': WHATEVER THE INPUT: true; the input reads as it did. -/
def bagExactSpec : ChangeSpec := { name := "bagExact", fn := fun _ => fun
  | [d] => { results := [.lit (.bool true)], args := [d] }
  | _ => none }
def bagExactRow : OpenClaim := { program := "ytjeddokenpkpnaa", sum := "931e1b2efc75572b758591453504866a69f129aaeb306574d56cdfe333e3a320", func := "farebox/fareboxlaw24.BagExact", spec := "bagExact", unfollowed := true, recurses := true, apart := false }
def BagExactSaid : Prop := bagExactRow.holds Try.pinned (OpenSpec.ofChange bagExactSpec)

/-- ITS FALSE NEIGHBOUR: 'it returns false'. Refute it at one input. -/
def bagExactWrong : ChangeSpec := { name := "bagExact", fn := fun _ => fun
  | [d] => { results := [.lit (.bool false)], args := [d] }
  | _ => none }
def BagExactWrongFalsely : Prop := bagExactRow.holds Try.pinned (OpenSpec.ofChange bagExactWrong)

/-- 'fareboxlaw24.BagKeeps': WHATEVER THE INPUT: true; the input reads as it did. -/
def bagKeepsSpec : ChangeSpec := { name := "bagKeeps", fn := fun _ => fun
  | [d] => { results := [.lit (.bool true)], args := [d] }
  | _ => none }
def bagKeepsRow : OpenClaim := { program := "ytjeddokenpkpnaa", sum := "931e1b2efc75572b758591453504866a69f129aaeb306574d56cdfe333e3a320", func := "farebox/fareboxlaw24.BagKeeps", spec := "bagKeeps", unfollowed := true, recurses := true, apart := false }
def BagKeepsSaid : Prop := bagKeepsRow.holds Try.pinned (OpenSpec.ofChange bagKeepsSpec)

/-- ITS FALSE NEIGHBOUR: 'it returns false'. Refute it at one input. -/
def bagKeepsWrong : ChangeSpec := { name := "bagKeeps", fn := fun _ => fun
  | [d] => { results := [.lit (.bool false)], args := [d] }
  | _ => none }
def BagKeepsWrongFalsely : Prop := bagKeepsRow.holds Try.pinned (OpenSpec.ofChange bagKeepsWrong)

/-- 'fareboxlaw24.BagApart': WHATEVER THE INPUT: true; the input reads as it did. -/
def bagApartSpec : ChangeSpec := { name := "bagApart", fn := fun _ => fun
  | [d] => { results := [.lit (.bool true)], args := [d] }
  | _ => none }
def bagApartRow : OpenClaim := { program := "ytjeddokenpkpnaa", sum := "931e1b2efc75572b758591453504866a69f129aaeb306574d56cdfe333e3a320", func := "farebox/fareboxlaw24.BagApart", spec := "bagApart", unfollowed := true, recurses := true, apart := false }
def BagApartSaid : Prop := bagApartRow.holds Try.pinned (OpenSpec.ofChange bagApartSpec)

/-- ITS FALSE NEIGHBOUR: 'it returns false'. Refute it at one input. -/
def bagApartWrong : ChangeSpec := { name := "bagApart", fn := fun _ => fun
  | [d] => { results := [.lit (.bool false)], args := [d] }
  | _ => none }
def BagApartWrongFalsely : Prop := bagApartRow.holds Try.pinned (OpenSpec.ofChange bagApartWrong)

/- THE SECOND FORM. 'bulk': how many values and letters a reading holds, each counted each time it is reached (what is shared counts as often as it is met; a slice's spare places count too). A statement '..UptoSaid' is the law's where the arguments, and the package variables that the reading takes, are together of bulk at most 1048576: NARROWER than '..Said'. Prove '..Said' where nothing that the law and all that it calls make is longer than what came in: it says more and counts as full. Else prove '..UptoSaid'. A law counts once. -/
mutual
def uptoBulk {H : Type} : DataW H → Nat
  | .lit (.string bytes) => bytes.length + 1
  | .lit _ => 1
  | .nil => 1
  | .ptr d => uptoBulk d + 1
  | .slice elems spare => uptoBulkAll elems + uptoBulkAll spare + 1
  | .agg parts => uptoBulkAll parts + 1
  | .iface _ d => uptoBulk d + 1
  | .map entries => uptoBulkEntries entries + 1
  | .held _ => 1
def uptoBulkAll {H : Type} : List (DataW H) → Nat
  | [] => 0
  | d :: r => uptoBulk d + uptoBulkAll r
def uptoBulkEntries {H : Type} : List (Lit × DataW H) → Nat
  | [] => 0
  | x :: r => uptoBulkEntry x + uptoBulkEntries r
def uptoBulkEntry {H : Type} : Lit × DataW H → Nat
  | (.string bytes, d) => bytes.length + uptoBulk d + 1
  | (_, d) => uptoBulk d + 1
 end
def uptoSmall : (H : Type) → List (DataW H) → Bool := fun _ ds => decide (uptoBulkAll ds ≤ 1048576)
def OpenSpec.upto (s : _root_.Go.ChangeSpec) : _root_.Go.OpenSpec := { _root_.Go.OpenSpec.ofChange s with cond := some uptoSmall }

/-- 'fareboxlaw24.BagAnyOrder', WHERE WHAT IT READS IS OF BULK AT MOST 1048576: true; the input reads as it did. -/
def bagAnyOrderUptoRow : OpenClaim := { program := "ytjeddokenpkpnaa", sum := "931e1b2efc75572b758591453504866a69f129aaeb306574d56cdfe333e3a320", func := "farebox/fareboxlaw24.BagAnyOrder", spec := "bagAnyOrder", unfollowed := true, recurses := true, apart := false, narrowed := true }
def BagAnyOrderUptoSaid : Prop := bagAnyOrderUptoRow.holds Try.pinned (OpenSpec.upto bagAnyOrderSpec)

/-- 'fareboxlaw24.BagExact', WHERE WHAT IT READS IS OF BULK AT MOST 1048576: true; the input reads as it did. -/
def bagExactUptoRow : OpenClaim := { program := "ytjeddokenpkpnaa", sum := "931e1b2efc75572b758591453504866a69f129aaeb306574d56cdfe333e3a320", func := "farebox/fareboxlaw24.BagExact", spec := "bagExact", unfollowed := true, recurses := true, apart := false, narrowed := true }
def BagExactUptoSaid : Prop := bagExactUptoRow.holds Try.pinned (OpenSpec.upto bagExactSpec)

/-- 'fareboxlaw24.BagKeeps', WHERE WHAT IT READS IS OF BULK AT MOST 1048576: true; the input reads as it did. -/
def bagKeepsUptoRow : OpenClaim := { program := "ytjeddokenpkpnaa", sum := "931e1b2efc75572b758591453504866a69f129aaeb306574d56cdfe333e3a320", func := "farebox/fareboxlaw24.BagKeeps", spec := "bagKeeps", unfollowed := true, recurses := true, apart := false, narrowed := true }
def BagKeepsUptoSaid : Prop := bagKeepsUptoRow.holds Try.pinned (OpenSpec.upto bagKeepsSpec)

/-- 'fareboxlaw24.BagApart', WHERE WHAT IT READS IS OF BULK AT MOST 1048576: true; the input reads as it did. -/
def bagApartUptoRow : OpenClaim := { program := "ytjeddokenpkpnaa", sum := "931e1b2efc75572b758591453504866a69f129aaeb306574d56cdfe333e3a320", func := "farebox/fareboxlaw24.BagApart", spec := "bagApart", unfollowed := true, recurses := true, apart := false, narrowed := true }
def BagApartUptoSaid : Prop := bagApartUptoRow.holds Try.pinned (OpenSpec.upto bagApartSpec)

end Rows
end Go.Proofs.Ytjeddokenpkpnaa
