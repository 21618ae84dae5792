/-
  Plain functions: commits from which a branch comes. No program is in sight here.
-/
import Derived.Test.YthhmaclhggmneaaDoorVM
set_option linter.unusedVariables false
namespace Go.Vc
/-- marks of all from which branches come -/
def liveM (cs : List Commit) (ms : List Bool) (hs : List Head) : List Bool := hs.foldl (fun m h => onAll m (allOf cs h.at_)) ms
theorem liveM_cons (cs : List Commit) (ms : List Bool) (h : Head) (hs : List Head) : liveM cs ms (h :: hs) = liveM cs (onAll ms (allOf cs h.at_)) hs := rfl
theorem liveM_len (cs : List Commit) : ∀ (hs : List Head) (ms : List Bool), (liveM cs ms hs).length = ms.length
  | [], _ => rfl
  | h :: hs, ms => by rw [liveM_cons, liveM_len cs hs, onAll_len]
theorem liveM_next {cs : List Commit} {ms M : List Bool} {hs : List Head} {k : Nat} (H : M = liveM cs ms (hs.drop k)) (h : k < hs.length) : M = liveM cs (onAll ms (allOf cs hs[k].at_)) (hs.drop (k + 1)) := by rw [H, drop_cons hs k h, liveM_cons]
theorem liveM_end {cs : List Commit} {ms M : List Bool} {hs : List Head} {k : Nat} (H : M = liveM cs ms (hs.drop k)) (h : ¬ k < hs.length) : M = ms := by rw [H, drop_nil hs k h]; rfl
def liveB (r : Repo) : List Bool := liveM r.commits (List.replicate r.commits.length false) r.heads
theorem liveB_len (r : Repo) : (liveB r).length = r.commits.length := by unfold liveB; rw [liveM_len]; simp
def liveT (r : Repo) : List Int := idxs (liveB r) 0
theorem liveT_len (r : Repo) : (liveT r).length ≤ r.commits.length := by
  have := idxs_len (liveB r) 0
  rw [liveB_len] at this
  exact this
theorem liveT_mem {r : Repo} {x : Int} (h : x ∈ liveT r) : 0 ≤ x ∧ x < r.commits.length := by
  obtain ⟨i, hi, e, _⟩ := (idxs_mem _ _ _).1 h
  rw [liveB_len] at hi
  subst e
  omega
def keepLive (r : Repo) : List Int := if repoB r = true then liveT r else []
theorem keepLive_len (r : Repo) : (keepLive r).length ≤ 16 := by
  unfold keepLive
  split
  · rename_i h
    exact Nat.le_trans (liveT_len r) (repo_le h)
  · simp
theorem heads_at {r : Repo} (h : repoB r = true) {k : Nat} (hk : k < r.heads.length) : 0 ≤ r.heads[k].at_ ∧ r.heads[k].at_ < (r.commits.length : Int) := by
  have h1 := (repo_parts h).2.2
  unfold headsB headAll at h1
  rw [Bool.and_eq_true, decide_eq_true_eq, decide_eq_true_eq] at h1
  have h2 := h1.2 k hk
  unfold headAt at h2
  rw [getD_hd hk] at h2
  simp only [Bool.and_eq_true, withinB, decide_eq_true_eq] at h2
  omega
theorem all_onAll {cs : List Commit} {at_ : Int} {m : Nat} (h : m < (allOf cs at_).length) : ∃ p : Nat, (allOf cs at_)[m] = (p : Int) ∧ p < cs.length := by
  have := allOf_mem (cs := cs) (at_ := at_) (List.getElem_mem h)
  exact ⟨_, (Int.toNat_of_nonneg this.1).symm, by omega⟩
end Go.Vc
