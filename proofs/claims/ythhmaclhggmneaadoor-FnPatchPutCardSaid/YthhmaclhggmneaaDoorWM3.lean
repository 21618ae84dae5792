/-
  Walks: the differences of two texts.
-/
import Derived.Test.YthhmaclhggmneaaDoorWM2
import Derived.Test.YthhmaclhggmneaaDoorWCopy
import Derived.Test.YthhmaclhggmneaaDoorWCut
import Derived.Test.YthhmaclhggmneaaDoorVL
import Derived.Test.YthhmaclhggmneaaDoorVPM
set_option linter.unusedVariables false
namespace Go.Proofs.YthhmaclhggmneaaDoor
open Go.RowKit Go.Vc
open Go.Vc.Rep (rd)
open Go.Vc.Own (own)

end Go.Proofs.YthhmaclhggmneaaDoor
