/-
  Walks: what is sent, and what is left.
-/
import Derived.Test.YthhmaclhggmneaaDoorVM
import Derived.Test.YthhmaclhggmneaaDoorWAnc2
set_option linter.unusedVariables false
namespace Go.Proofs.YthhmaclhggmneaaDoor
open Go.RowKit Go.Vc
open Go.Vc.Rep (rd)
open Go.Vc.Own (own)

def sendN (r : Repo) (xs : List Int) (at_ : Int) : Int := if suspB r xs at_ = true then ((leftT r.commits at_ xs).length : Int) else -1
def logLeft (r : Repo) (xs : List Int) (at_ : Int) : List Int := if suspB r xs at_ = true then leftT r.commits at_ xs else []
theorem logLeft_len (r : Repo) (xs : List Int) (at_ : Int) : (logLeft r xs at_).length ≤ 16 := by
  unfold logLeft
  split
  · rename_i h
    have := repo_le (susp_parts h).1
    exact Nat.le_trans (left_len _ _ _) this
  · simp

end Go.Proofs.YthhmaclhggmneaaDoor
