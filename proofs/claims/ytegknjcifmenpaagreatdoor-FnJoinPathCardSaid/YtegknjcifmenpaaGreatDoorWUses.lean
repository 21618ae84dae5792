/-
  Walks: which files refer to a path.
-/
import Derived.Test.YtegknjcifmenpaaGreatDoorVGR
import Derived.Test.YtegknjcifmenpaaGreatDoorVTR
import Derived.Test.YtegknjcifmenpaaGreatDoorWTreeS
import Derived.Test.YtegknjcifmenpaaGreatDoorVI
set_option linter.unusedVariables false
namespace Go.Proofs.YtegknjcifmenpaaGreatDoor
open Go.RowKit Go.Vc
open Go.Vc.Rep (rd)
open Go.Vc.Own (own)

theorem own_strm {s : ByteArray} (h : s.size ≤ maxLen) (w : World) : Go.Vc.Own.own [] w [.string s] s := ⟨rfl, rfl, h⟩
end Go.Proofs.YtegknjcifmenpaaGreatDoor
