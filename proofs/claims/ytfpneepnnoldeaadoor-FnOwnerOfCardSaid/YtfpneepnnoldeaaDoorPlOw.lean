/-
  Plain functions: owners. No program is in sight here.
-/
import Derived.Test.YtfpneepnnoldeaaDoorOwner0
import Derived.Test.YtfpneepnnoldeaaDoorVH
set_option linter.unusedVariables false
namespace Go.Vc
def noOwner : Owner := ⟨⟨#[]⟩, ⟨#[]⟩⟩
/-- the paths ascend, at place i -/
def ownStep (xs : List Owner) (i : Nat) : Bool := decide (i = 0) || lessB (xs.getD (i - 1) noOwner).path (xs.getD i noOwner).path
def ownAt (xs : List Owner) (i : Nat) : Bool := pathB (xs.getD i noOwner).path && nameB (xs.getD i noOwner).who && ownStep xs i
def ownAll5 (xs : List Owner) : Bool := decide (∀ i, i < xs.length → ownAt xs i = true)
def ownersB (xs : List Owner) : Bool := decide (xs.length ≤ 5) && ownAll5 xs
theorem getD_own {xs : List Owner} {i : Nat} (hi : i < xs.length) : xs.getD i noOwner = xs[i] := by simp [List.getD, hi]
theorem own_long {xs : List Owner} (h : ¬ xs.length ≤ 5) : ownersB xs = false := by rw [ownersB, decide_eq_false h]; rfl
theorem own_few {xs : List Owner} (h : xs.length ≤ 5) : ownersB xs = ownAll5 xs := by rw [ownersB, decide_eq_true h]; rfl
theorem own_f {xs : List Owner} {i : Nat} (hi : i < xs.length) (h : ownAt xs i = false) : ownAll5 xs = false := decide_eq_false fun hh => by rw [hh i hi] at h; cases h
theorem own_f' {xs : List Owner} {i : Nat} (hi : i < xs.length) (h : ownAt xs i = false) : ownersB xs = false := by rw [ownersB, own_f hi h, Bool.and_false]
theorem own_t {xs : List Owner} (h : ∀ i, i < xs.length → ownAt xs i = true) : ownAll5 xs = true := decide_eq_true h
theorem ownStep_pos {xs : List Owner} {i : Nat} (h0 : 0 < i) (hi : i < xs.length) : ownStep xs i = lessB (xs[i - 1]'(by omega)).path xs[i].path := by
  unfold ownStep
  rw [getD_own hi, getD_own (by omega), decide_eq_false (by omega), Bool.false_or]
theorem ownAt_path {xs : List Owner} {i : Nat} (hi : i < xs.length) (h : pathB xs[i].path = false) : ownAt xs i = false := by unfold ownAt; rw [getD_own hi, h]; rfl
theorem ownAt_who {xs : List Owner} {i : Nat} (hi : i < xs.length) (h : nameB xs[i].who = false) : ownAt xs i = false := by unfold ownAt; rw [getD_own hi, h, Bool.and_false]; rfl
theorem ownAt_step {xs : List Owner} {i : Nat} (h0 : 0 < i) (hi : i < xs.length) (h : lessB (xs[i - 1]'(by omega)).path xs[i].path = false) : ownAt xs i = false := by unfold ownAt; rw [ownStep_pos h0 hi, h, Bool.and_false]
theorem ownAt_pos {xs : List Owner} {i : Nat} (h0 : 0 < i) (hi : i < xs.length) (h1 : pathB xs[i].path = true) (h2 : nameB xs[i].who = true) (h : lessB (xs[i - 1]'(by omega)).path xs[i].path = true) : ownAt xs i = true := by
  unfold ownAt; rw [ownStep_pos h0 hi, h, getD_own hi, h1, h2]; rfl
theorem ownAt_first {xs : List Owner} {i : Nat} (h0 : i = 0) (hi : i < xs.length) (h1 : pathB xs[i].path = true) (h2 : nameB xs[i].who = true) : ownAt xs i = true := by
  unfold ownAt; rw [getD_own hi, h1, h2]; unfold ownStep; rw [decide_eq_true h0]; rfl
end Go.Vc
