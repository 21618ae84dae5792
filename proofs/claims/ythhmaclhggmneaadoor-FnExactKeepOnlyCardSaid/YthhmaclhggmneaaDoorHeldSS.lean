/-
  Walks: marks of [][]string, held.
-/
import Derived.Test.YthhmaclhggmneaaDoorHlpSS
set_option linter.unusedVariables false
namespace Go.Proofs.YthhmaclhggmneaaDoor
open Go.RowKit Go.Vc
open Go.Vc.Rep (rd)
open Go.Vc.Own (own)

end Go.Proofs.YthhmaclhggmneaaDoor
