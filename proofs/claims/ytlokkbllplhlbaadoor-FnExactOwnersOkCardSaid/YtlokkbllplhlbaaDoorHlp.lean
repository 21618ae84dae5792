/-
  Walks: the laws' own helpers on []string: what they take of a budget, copies, whether two are one.
-/
import Derived.Test.YtlokkbllplhlbaaDoorW1
import Derived.Test.YtlokkbllplhlbaaDoorGen
set_option linter.unusedVariables false
namespace Go.Proofs.YtlokkbllplhlbaaDoor
open Go.RowKit Go.Vc
open Go.Vc.Rep (rd)
open Go.Vc.Own (own)

abbrev bulk_S (xs : List ByteArray) : Nat := bulkS xs
end Go.Proofs.YtlokkbllplhlbaaDoor
