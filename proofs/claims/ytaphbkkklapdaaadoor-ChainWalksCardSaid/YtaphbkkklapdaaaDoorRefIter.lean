/-
  The document's Iterate.
-/
import Derived.Test.YtaphbkkklapdaaaDoorIter
namespace Go.Proofs.YtaphbkkklapdaaaDoor
open Go Go.RowKit Go.Proofs
end Go.Proofs.YtaphbkkklapdaaaDoor
