/-
  Walks: the files at a path.
-/
import Derived.Test.YthhmaclhggmneaaGreatDoorRaw
import Derived.Test.YthhmaclhggmneaaGreatDoorWUnder0
import Derived.Test.YthhmaclhggmneaaGreatDoorPlPath
import Derived.Test.YthhmaclhggmneaaGreatDoorVL
import Derived.Test.YthhmaclhggmneaaGreatDoorWAnc2
set_option linter.unusedVariables false
namespace Go.Proofs.YthhmaclhggmneaaGreatDoor
open Go.RowKit Go.Vc
open Go.Vc.Rep (rd)
open Go.Vc.Own (own)


end Go.Proofs.YthhmaclhggmneaaGreatDoor
