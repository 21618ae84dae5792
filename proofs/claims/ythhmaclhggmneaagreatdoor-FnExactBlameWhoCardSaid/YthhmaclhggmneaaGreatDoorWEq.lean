/-
  Walks: whether two texts are one.
-/
import Derived.Test.YthhmaclhggmneaaGreatDoorVI
set_option linter.unusedVariables false
namespace Go.Proofs.YthhmaclhggmneaaGreatDoor
open Go.RowKit Go.Vc
open Go.Vc.Rep (rd)
open Go.Vc.Own (own)

end Go.Proofs.YthhmaclhggmneaaGreatDoor
