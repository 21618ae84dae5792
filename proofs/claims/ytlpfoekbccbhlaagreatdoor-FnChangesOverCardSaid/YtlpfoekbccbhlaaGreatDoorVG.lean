/-
  Walks: lines put behind parts, as the program does. / Walks: the merge, as the program does it. / Walks: what comes of a merge, as the program has it.
-/
import Derived.Test.YtlpfoekbccbhlaaGreatDoorVM3
import Derived.Test.YtlpfoekbccbhlaaGreatDoorVFS
import Derived.Test.YtlpfoekbccbhlaaGreatDoorVP2
import Derived.Test.YtlpfoekbccbhlaaGreatDoorVSM
import Derived.Test.YtlpfoekbccbhlaaGreatDoorVI
set_option linter.unusedVariables false
namespace Go.Proofs.YtlpfoekbccbhlaaGreatDoor
open Go.RowKit Go.Vc
open Go.Vc.Rep (rd)
open Go.Vc.Own (own)

end Go.Proofs.YtlpfoekbccbhlaaGreatDoor
namespace Go.Proofs.YtlpfoekbccbhlaaGreatDoor
open Go.RowKit Go.Vc
open Go.Vc.Rep (rd)
open Go.Vc.Own (own)

end Go.Proofs.YtlpfoekbccbhlaaGreatDoor
namespace Go.Proofs.YtlpfoekbccbhlaaGreatDoor
open Go.RowKit Go.Vc
open Go.Vc.Rep (rd)
open Go.Vc.Own (own)

/-- as one side has it, whichever -/
def mSideV (o a b : List ByteArray) (s : Int) : List ByteArray × Bool := if threeB o a b = true then pFin (some (sideF s (mergeT o a b))) else ([], false)

end Go.Proofs.YtlpfoekbccbhlaaGreatDoor
