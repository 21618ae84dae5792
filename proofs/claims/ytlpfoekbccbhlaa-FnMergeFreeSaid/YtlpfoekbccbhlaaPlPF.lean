/-
  Plain: patches that are apart, step by step. No program is in sight here.
-/
import Derived.Test.YtlpfoekbccbhlaaPlMH
set_option linter.unusedVariables false
namespace Go.Vc
section
variable {a b : List Hunk} {k : Nat} {M : Bool} {x : Hunk}
theorem free_hit (H : M = freeF (a.drop k) b) (hk : k < a.length) (h : b.all (apartB a[k]) = true) : M = freeF (a.drop (k + 1)) b := by
  rw [H, drop_cons a k hk, freeF, List.all_cons]
  show (b.all (apartB a[k]) && _) = _
  rw [h, Bool.true_and]; rfl
theorem free_bad (H : M = freeF (a.drop k) b) (hk : k < a.length) (h : b.all (apartB a[k]) = false) : M = false := by
  rw [H, drop_cons a k hk, freeF, List.all_cons]
  show (b.all (apartB a[k]) && _) = _
  rw [h, Bool.false_and]
theorem free_end (H : M = freeF (a.drop k) b) (hk : ¬ k < a.length) : M = true := by rw [H, drop_nil a k hk]; rfl
theorem row_hit (H : M = (b.drop k).all (apartB x)) (hk : k < b.length) (h : apartB x b[k] = true) : M = (b.drop (k + 1)).all (apartB x) := by
  rw [H, drop_cons b k hk, List.all_cons, h, Bool.true_and]
theorem row_bad (H : M = (b.drop k).all (apartB x)) (hk : k < b.length) (h : apartB x b[k] = false) : M = false := by
  rw [H, drop_cons b k hk, List.all_cons, h, Bool.false_and]
theorem row_end (H : M = (b.drop k).all (apartB x)) (hk : ¬ k < b.length) : M = true := by rw [H, drop_nil b k hk]; rfl
end
theorem free_no1 {a b : List Hunk} (h : patchB a = false) : freeB a b = false := by unfold freeB; rw [h]; rfl
theorem free_no2 {a b : List Hunk} (h : patchB b = false) : freeB a b = false := by unfold freeB; rw [h]; simp
theorem free_ok {a b : List Hunk} (h1 : patchB a = true) (h2 : patchB b = true) : freeB a b = freeF a b := by unfold freeB; rw [h1, h2]; rfl
theorem apart_f {x y : Hunk} (h1 : y.at_ ≤ x.at_ + x.less.length) (h2 : x.at_ ≤ y.at_ + y.less.length) : apartB x y = false := by
  unfold apartB
  rw [decide_eq_false (by omega), decide_eq_false (by omega)]; rfl
theorem apart_1 {x y : Hunk} (h1 : ¬ y.at_ ≤ x.at_ + x.less.length) : apartB x y = true := by
  unfold apartB
  rw [decide_eq_true (by omega), Bool.true_or]
theorem apart_2 {x y : Hunk} (h2 : ¬ x.at_ ≤ y.at_ + y.less.length) : apartB x y = true := by
  unfold apartB
  rw [decide_eq_true (p := y.at_ + y.less.length < x.at_) (by omega), Bool.or_true]
theorem patch_few {d : List Hunk} (h : patchB d = true) {i : Nat} (hi : i < d.length) : (0 ≤ d[i].at_ ∧ d[i].at_ ≤ 10) ∧ d[i].less.length ≤ 10 ∧ d[i].more.length ≤ 10 := by
  have := patch_at h hi
  exact ⟨⟨this.1, this.2.1⟩, text_len10 this.2.2.1, text_len10 this.2.2.2.1⟩
/-- one piece's place behind a -/
def stepS (p : Int) (acc : Int) (x : Hunk) : Int := if x.at_ < p then acc + x.more.length - x.less.length else acc
theorem shiftAt_eq (a : List Hunk) (y : Hunk) : shiftAt a y = a.foldl (stepS y.at_) y.at_ := rfl
section
variable {a b : List Hunk} {k : Nat} {M p acc : Int} {D ol : List Hunk}
theorem stepS_yes (H : M = (a.drop k).foldl (stepS p) acc) (hk : k < a.length) (h : a[k].at_ < p) : M = (a.drop (k + 1)).foldl (stepS p) (acc + ((a[k].more.length : Int) - (a[k].less.length : Int))) := by
  rw [H, drop_cons a k hk, List.foldl_cons, stepS, if_pos h]
  congr 1
  omega
theorem stepS_no (H : M = (a.drop k).foldl (stepS p) acc) (hk : k < a.length) (h : ¬ a[k].at_ < p) : M = (a.drop (k + 1)).foldl (stepS p) acc := by
  rw [H, drop_cons a k hk, List.foldl_cons, stepS, if_neg h]
theorem stepS_end (H : M = (a.drop k).foldl (stepS p) acc) (hk : ¬ k < a.length) : M = acc := by rw [H, drop_nil a k hk]; rfl
theorem shift_put (H : D = ol ++ shiftF a (b.drop k)) (hk : k < b.length) : D = (ol ++ [⟨shiftAt a b[k], b[k].less, b[k].more⟩]) ++ shiftF a (b.drop (k + 1)) := by
  rw [H, drop_cons b k hk, shiftF, List.map_cons, List.append_assoc]; rfl
theorem shift_end (H : D = ol ++ shiftF a (b.drop k)) (hk : ¬ k < b.length) : D = ol := by rw [H, drop_nil b k hk]; simp [shiftF]
end
end Go.Vc
