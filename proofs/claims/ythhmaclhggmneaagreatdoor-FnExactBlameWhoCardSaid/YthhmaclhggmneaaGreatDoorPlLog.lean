/-
  Plain functions: ancestors that are asked for. No program is in sight here.
-/
import Derived.Test.YthhmaclhggmneaaGreatDoorVM
set_option linter.unusedVariables false
namespace Go.Vc
def logT (r : Repo) (at_ : Int) (P : Int → Bool) : List Int := if (repoB r && anyB r.commits.length [at_]) = true then ((allOf r.commits at_).filter P).reverse else []
theorem any_one {n : Nat} {x : Int} : anyB n [x] = withinB x 0 ((n : Int) - 1) := by simp [anyB]
theorem logT_len (r : Repo) (at_ : Int) (P : Int → Bool) : (logT r at_ P).length ≤ 16 := by
  unfold logT
  split
  · rename_i h
    rw [Bool.and_eq_true] at h
    have h1 := repo_le h.1
    have h2 := allOf_len r.commits at_
    have h3 := List.length_filter_le P (allOf r.commits at_)
    rw [List.length_reverse]
    omega
  · simp
end Go.Vc
