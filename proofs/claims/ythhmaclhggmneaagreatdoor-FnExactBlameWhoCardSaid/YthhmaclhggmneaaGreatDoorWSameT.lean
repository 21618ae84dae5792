/-
  Walks: whether two trees are one.
-/
import Derived.Test.YthhmaclhggmneaaGreatDoorWEq
import Derived.Test.YthhmaclhggmneaaGreatDoorPlPath
import Derived.Test.YthhmaclhggmneaaGreatDoorWAnc2
set_option linter.unusedVariables false
namespace Go.Proofs.YthhmaclhggmneaaGreatDoor
open Go.RowKit Go.Vc
open Go.Vc.Rep (rd)
open Go.Vc.Own (own)
theorem file_dec (f g : File) : decide (f = g) = (decide (f.path = g.path) && decide (f.text = g.text)) := by
  rw [← Bool.decide_and, decide_eq_decide]
  exact eq_file f g

end Go.Proofs.YthhmaclhggmneaaGreatDoor
