/-
  No cell of these rows narrows 'for every input' (looked for: loops, veiled, ifaces, maps, wideKeys, modest, calm, conditions, laid).
  DERIVED. THE GIVEN ROWS OF THIS SEAT. 4 by the template 'for every input the law returns true; each argument reads behind the call as it read before'; 0 by the template 'total and deterministic' (their statements: YtdejiachopiaaaaTotals.lean).
  GIVEN WITH THE SEED: the statements are not yours to turn. If you find one false, say at which input.
  Laid BY PROGRAM, IN A SANDBOX (cutbox-rows.mjs): the forced cells as the released guide's own fill.sh prints them over the translation 9e9e2fc0d60ea37f… (all of the seat's roots in one cut). By AI agents, Wed Nov 11 2026. No macro, syntax, notation, axiom, sorry.
-/
import Derived.Test.YtdejiachopiaaaaChecked
import GoSem.Claim
import GoSem.ClaimJoined
import GoSem.ClaimMapViews
import Derived.JoinedTies
import Derived.KernelRfl
namespace Go.Proofs.Ytdejiachopiaaaa
/- THE CELL 'sum', in the pinned program and in every row, IS THE sha256 OF THE DUMP (.gsa) THAT YtdejiachopiaaaaProg.lean LOADS. Nothing in Lean hashes anything: it is a label: what it is worth is what the hold of that sum in a sandbox is worth. -/
noncomputable def Try.pinned : Pinned := { name := "ytdejiachopiaaaa", sum := "9e9e2fc0d60ea37fba9a149e8a602bd500787010880ade1102a85db5299f3c3f", checked := Try.checked }
namespace Rows
def none {H : Type} : Left H := { results := [], args := [] }

/-- 'fareboxlaw02.Sha256Pads': WHATEVER THE INPUT: true; the input reads as it did. -/
def sha256PadsSpec : ChangeSpec := { name := "sha256Pads", fn := fun _ => fun
  | [d] => { results := [.lit (.bool true)], args := [d] }
  | _ => none }
def sha256PadsRow : OpenClaim := { program := "ytdejiachopiaaaa", sum := "9e9e2fc0d60ea37fba9a149e8a602bd500787010880ade1102a85db5299f3c3f", func := "farebox/fareboxlaw02.Sha256Pads", spec := "sha256Pads", apart := false }
def Sha256PadsSaid : Prop := sha256PadsRow.holds Try.pinned (OpenSpec.ofChange sha256PadsSpec)

/-- ITS FALSE NEIGHBOUR: 'it returns false'. Refute it at one input. -/
def sha256PadsWrong : ChangeSpec := { name := "sha256Pads", fn := fun _ => fun
  | [d] => { results := [.lit (.bool false)], args := [d] }
  | _ => none }
def Sha256PadsWrongFalsely : Prop := sha256PadsRow.holds Try.pinned (OpenSpec.ofChange sha256PadsWrong)

/-- 'fareboxlaw03.Sha512Pads': WHATEVER THE INPUT: true; the input reads as it did. -/
def sha512PadsSpec : ChangeSpec := { name := "sha512Pads", fn := fun _ => fun
  | [d] => { results := [.lit (.bool true)], args := [d] }
  | _ => none }
def sha512PadsRow : OpenClaim := { program := "ytdejiachopiaaaa", sum := "9e9e2fc0d60ea37fba9a149e8a602bd500787010880ade1102a85db5299f3c3f", func := "farebox/fareboxlaw03.Sha512Pads", spec := "sha512Pads", apart := false }
def Sha512PadsSaid : Prop := sha512PadsRow.holds Try.pinned (OpenSpec.ofChange sha512PadsSpec)

/-- ITS FALSE NEIGHBOUR: 'it returns false'. Refute it at one input. -/
def sha512PadsWrong : ChangeSpec := { name := "sha512Pads", fn := fun _ => fun
  | [d] => { results := [.lit (.bool false)], args := [d] }
  | _ => none }
def Sha512PadsWrongFalsely : Prop := sha512PadsRow.holds Try.pinned (OpenSpec.ofChange sha512PadsWrong)

/-- 'fareboxlaw03.Sha512Apart': WHATEVER THE INPUT: true; the input reads as it did. -/
def sha512ApartSpec : ChangeSpec := { name := "sha512Apart", fn := fun _ => fun
  | [d] => { results := [.lit (.bool true)], args := [d] }
  | _ => none }
def sha512ApartRow : OpenClaim := { program := "ytdejiachopiaaaa", sum := "9e9e2fc0d60ea37fba9a149e8a602bd500787010880ade1102a85db5299f3c3f", func := "farebox/fareboxlaw03.Sha512Apart", spec := "sha512Apart", apart := false }
def Sha512ApartSaid : Prop := sha512ApartRow.holds Try.pinned (OpenSpec.ofChange sha512ApartSpec)

/-- ITS FALSE NEIGHBOUR: 'it returns false'. Refute it at one input. -/
def sha512ApartWrong : ChangeSpec := { name := "sha512Apart", fn := fun _ => fun
  | [d] => { results := [.lit (.bool false)], args := [d] }
  | _ => none }
def Sha512ApartWrongFalsely : Prop := sha512ApartRow.holds Try.pinned (OpenSpec.ofChange sha512ApartWrong)

/-- 'fareboxlaw03.Sha512Expands': WHATEVER THE INPUT: true; the input reads as it did. -/
def sha512ExpandsSpec : ChangeSpec := { name := "sha512Expands", fn := fun _ => fun
  | [d] => { results := [.lit (.bool true)], args := [d] }
  | _ => none }
def sha512ExpandsRow : OpenClaim := { program := "ytdejiachopiaaaa", sum := "9e9e2fc0d60ea37fba9a149e8a602bd500787010880ade1102a85db5299f3c3f", func := "farebox/fareboxlaw03.Sha512Expands", spec := "sha512Expands", apart := false }
def Sha512ExpandsSaid : Prop := sha512ExpandsRow.holds Try.pinned (OpenSpec.ofChange sha512ExpandsSpec)

/-- ITS FALSE NEIGHBOUR: 'it returns false'. Refute it at one input. -/
def sha512ExpandsWrong : ChangeSpec := { name := "sha512Expands", fn := fun _ => fun
  | [d] => { results := [.lit (.bool false)], args := [d] }
  | _ => none }
def Sha512ExpandsWrongFalsely : Prop := sha512ExpandsRow.holds Try.pinned (OpenSpec.ofChange sha512ExpandsWrong)

/- THE SECOND FORM. 'bulk': how many values and letters a reading holds, each counted each time it is reached (what is shared counts as often as it is met; a slice's spare places count too). A statement '..UptoSaid' is the law's where the arguments, and the package variables that the reading takes, are together of bulk at most 1048576: NARROWER than '..Said'. Prove '..Said' where nothing that the law and all that it calls make is longer than what came in: it says more and counts as full. Else prove '..UptoSaid'. A law counts once. -/
mutual
def uptoBulk {H : Type} : DataW H → Nat
  | .lit (.string bytes) => bytes.length + 1
  | .lit _ => 1
  | .nil => 1
  | .ptr d => uptoBulk d + 1
  | .slice elems spare => uptoBulkAll elems + uptoBulkAll spare + 1
  | .agg parts => uptoBulkAll parts + 1
  | .iface _ d => uptoBulk d + 1
  | .map entries => uptoBulkEntries entries + 1
  | .held _ => 1
def uptoBulkAll {H : Type} : List (DataW H) → Nat
  | [] => 0
  | d :: r => uptoBulk d + uptoBulkAll r
def uptoBulkEntries {H : Type} : List (Lit × DataW H) → Nat
  | [] => 0
  | x :: r => uptoBulkEntry x + uptoBulkEntries r
def uptoBulkEntry {H : Type} : Lit × DataW H → Nat
  | (.string bytes, d) => bytes.length + uptoBulk d + 1
  | (_, d) => uptoBulk d + 1
 end
def uptoSmall : (H : Type) → List (DataW H) → Bool := fun _ ds => decide (uptoBulkAll ds ≤ 1048576)
def OpenSpec.upto (s : _root_.Go.ChangeSpec) : _root_.Go.OpenSpec := { _root_.Go.OpenSpec.ofChange s with cond := some uptoSmall }

/-- 'fareboxlaw02.Sha256Pads', WHERE WHAT IT READS IS OF BULK AT MOST 1048576: true; the input reads as it did. -/
def sha256PadsUptoRow : OpenClaim := { program := "ytdejiachopiaaaa", sum := "9e9e2fc0d60ea37fba9a149e8a602bd500787010880ade1102a85db5299f3c3f", func := "farebox/fareboxlaw02.Sha256Pads", spec := "sha256Pads", apart := false, narrowed := true }
def Sha256PadsUptoSaid : Prop := sha256PadsUptoRow.holds Try.pinned (OpenSpec.upto sha256PadsSpec)

/-- 'fareboxlaw03.Sha512Pads', WHERE WHAT IT READS IS OF BULK AT MOST 1048576: true; the input reads as it did. -/
def sha512PadsUptoRow : OpenClaim := { program := "ytdejiachopiaaaa", sum := "9e9e2fc0d60ea37fba9a149e8a602bd500787010880ade1102a85db5299f3c3f", func := "farebox/fareboxlaw03.Sha512Pads", spec := "sha512Pads", apart := false, narrowed := true }
def Sha512PadsUptoSaid : Prop := sha512PadsUptoRow.holds Try.pinned (OpenSpec.upto sha512PadsSpec)

/-- 'fareboxlaw03.Sha512Apart', WHERE WHAT IT READS IS OF BULK AT MOST 1048576: true; the input reads as it did. -/
def sha512ApartUptoRow : OpenClaim := { program := "ytdejiachopiaaaa", sum := "9e9e2fc0d60ea37fba9a149e8a602bd500787010880ade1102a85db5299f3c3f", func := "farebox/fareboxlaw03.Sha512Apart", spec := "sha512Apart", apart := false, narrowed := true }
def Sha512ApartUptoSaid : Prop := sha512ApartUptoRow.holds Try.pinned (OpenSpec.upto sha512ApartSpec)

/-- 'fareboxlaw03.Sha512Expands', WHERE WHAT IT READS IS OF BULK AT MOST 1048576: true; the input reads as it did. -/
def sha512ExpandsUptoRow : OpenClaim := { program := "ytdejiachopiaaaa", sum := "9e9e2fc0d60ea37fba9a149e8a602bd500787010880ade1102a85db5299f3c3f", func := "farebox/fareboxlaw03.Sha512Expands", spec := "sha512Expands", apart := false, narrowed := true }
def Sha512ExpandsUptoSaid : Prop := sha512ExpandsUptoRow.holds Try.pinned (OpenSpec.upto sha512ExpandsSpec)

end Rows
end Go.Proofs.Ytdejiachopiaaaa
