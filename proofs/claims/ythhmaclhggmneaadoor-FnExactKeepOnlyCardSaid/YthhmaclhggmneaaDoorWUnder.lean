/-
  Walks: the files at a path.
-/
import Derived.Test.YthhmaclhggmneaaDoorRaw
import Derived.Test.YthhmaclhggmneaaDoorWUnder0
import Derived.Test.YthhmaclhggmneaaDoorPlPath
import Derived.Test.YthhmaclhggmneaaDoorVL
import Derived.Test.YthhmaclhggmneaaDoorWAnc2
set_option linter.unusedVariables false
namespace Go.Proofs.YthhmaclhggmneaaDoor
open Go.RowKit Go.Vc
open Go.Vc.Rep (rd)
open Go.Vc.Own (own)


end Go.Proofs.YthhmaclhggmneaaDoor
