/-
  Walks: whether there is a repository, as the program has it.
-/
import Derived.Test.YtfpneepnnoldeaaDoorVK
import Derived.Test.YtfpneepnnoldeaaDoorWTree
set_option linter.unusedVariables false
namespace Go.Proofs.YtfpneepnnoldeaaDoor
open Go.RowKit Go.Vc
open Go.Vc.Rep (rd)
open Go.Vc.Own (own)

end Go.Proofs.YtfpneepnnoldeaaDoor
