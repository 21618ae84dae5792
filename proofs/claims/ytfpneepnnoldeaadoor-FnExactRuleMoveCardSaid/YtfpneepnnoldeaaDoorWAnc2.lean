/-
  Walks: lists of commits, as the program has them.
-/
import Derived.Test.YtfpneepnnoldeaaDoorVK
import Derived.Test.YtfpneepnnoldeaaDoorWRepo
set_option linter.unusedVariables false
namespace Go.Proofs.YtfpneepnnoldeaaDoor
open Go.RowKit Go.Vc
open Go.Vc.Rep (rd)
open Go.Vc.Own (own)




end Go.Proofs.YtfpneepnnoldeaaDoor
