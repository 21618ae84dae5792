/-
  Walks: patches put in.
-/
import Derived.Test.YthhmaclhggmneaaDoorWP1
import Derived.Test.YthhmaclhggmneaaDoorVSM
import Derived.Test.YthhmaclhggmneaaDoorWCut
import Derived.Test.YthhmaclhggmneaaDoorVB
import Derived.Test.YthhmaclhggmneaaDoorVL
set_option linter.unusedVariables false
namespace Go.Proofs.YthhmaclhggmneaaDoor
open Go.RowKit Go.Vc
open Go.Vc.Rep (rd)
open Go.Vc.Own (own)

end Go.Proofs.YthhmaclhggmneaaDoor
