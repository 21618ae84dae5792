/-
  Walks: which commits come from which, as the reference has it. / Plain functions: commits that are left. No program is in sight here. / Walks: commits that are left, as the reference has it.
-/
import Derived.Test.YthhmaclhggmneaaGreatDoorVK
import Derived.Test.YthhmaclhggmneaaGreatDoorWRepoS
import Derived.Test.YthhmaclhggmneaaGreatDoorVJ
import Derived.Deep.RegionHeld3
set_option linter.unusedVariables false
namespace Go.Proofs.YthhmaclhggmneaaGreatDoor
open Go.RowKit Go.Vc
open Go.Vc.Rep (rd)
open Go.Vc.Own (own)

end Go.Proofs.YthhmaclhggmneaaGreatDoor
namespace Go.Vc
theorem filt_yes {α : Type} {P : α → Bool} {M ol xs : List α} {k : Nat} (H : M = ol ++ (xs.drop k).filter P) (h : k < xs.length) (hp : P xs[k] = true) : M = (ol ++ [xs[k]]) ++ (xs.drop (k + 1)).filter P := by
  rw [H, drop_cons xs k h, List.filter_cons_of_pos hp, List.append_assoc]; rfl
theorem filt_no {α : Type} {P : α → Bool} {M ol xs : List α} {k : Nat} (H : M = ol ++ (xs.drop k).filter P) (h : k < xs.length) (hp : P xs[k] = false) : M = ol ++ (xs.drop (k + 1)).filter P := by
  rw [H, drop_cons xs k h, List.filter_cons_of_neg (by rw [hp]; simp)]
theorem filt_end {α : Type} {P : α → Bool} {M ol xs : List α} {k : Nat} (H : M = ol ++ (xs.drop k).filter P) (h : ¬ k < xs.length) : M = ol := by
  rw [H, drop_nil xs k h, List.filter_nil, List.append_nil]
theorem none_next {cs : List Commit} {os : List Int} {x : Int} {l : Bool} {m : Nat} (H : noneB cs os x = (l && noneB cs (os.drop m) x)) (h : m < os.length) : noneB cs os x = ((l && !hasB (allOf cs os[m]) x) && noneB cs (os.drop (m + 1)) x) := by
  rw [H, drop_cons os m h, noneB, List.all_cons, Bool.and_assoc]; rfl
theorem none_end {cs : List Commit} {os : List Int} {x : Int} {l : Bool} {m : Nat} (H : noneB cs os x = (l && noneB cs (os.drop m) x)) (h : ¬ m < os.length) : noneB cs os x = l := by
  rw [H, drop_nil os m h]; simp [noneB]
theorem allOf_len (cs : List Commit) (at_ : Int) : (allOf cs at_).length ≤ cs.length := by
  have := idxs_len (anc cs at_) 0
  rw [anc_len] at this
  exact this
theorem left_len (cs : List Commit) (at_ : Int) (os : List Int) : (leftT cs at_ os).length ≤ cs.length :=
  Nat.le_trans (List.length_filter_le _ _) (allOf_len cs at_)
theorem repo_le {r : Repo} (h : repoB r = true) : r.commits.length ≤ 16 := (repo_parts h).1
end Go.Vc
namespace Go.Proofs.YthhmaclhggmneaaGreatDoor
open Go.RowKit Go.Vc
open Go.Vc.Rep (rd)
open Go.Vc.Own (own)

end Go.Proofs.YthhmaclhggmneaaGreatDoor
