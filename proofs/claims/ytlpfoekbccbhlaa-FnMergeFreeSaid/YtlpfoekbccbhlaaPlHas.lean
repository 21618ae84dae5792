/-
  Plain functions: whether, and how often, a line is among others. No program is in sight here.
-/
import Derived.Test.YtlpfoekbccbhlaaVA
set_option linter.unusedVariables false
namespace Go.Vc
/-- how many times a line is among others -/
def manyT (s : ByteArray) (xs : List ByteArray) : Nat := (xs.filter fun x => decide (x = s)).length
def hasS (s : ByteArray) (xs : List ByteArray) : Bool := xs.any fun x => decide (x = s)
theorem manyT_app (s : ByteArray) (xs ys : List ByteArray) : manyT s (xs ++ ys) = manyT s xs + manyT s ys := by unfold manyT; rw [List.filter_append, List.length_append]
theorem manyT_none {s : ByteArray} {xs : List ByteArray} (h : ∀ x, x ∈ xs → ¬ x = s) : manyT s xs = 0 := by
  unfold manyT
  rw [List.filter_eq_nil_iff.2 fun x hx => by simpa using h x hx]; rfl
theorem manyT_le (s : ByteArray) (xs : List ByteArray) : manyT s xs ≤ xs.length := List.length_filter_le _ _
theorem hasS_f {s : ByteArray} {xs : List ByteArray} (h : hasS s xs = false) : ∀ x, x ∈ xs → ¬ x = s := fun x hx e => by
  unfold hasS at h
  have := (List.any_eq_false.1 h) x hx
  simp [e] at this
theorem many_yes {s : ByteArray} {M : Nat} {xs : List ByteArray} {n k : Nat} (H : M = n + manyT s (xs.drop k)) (h : k < xs.length) (he : xs[k] = s) : M = (n + 1) + manyT s (xs.drop (k + 1)) := by
  rw [H, drop_cons xs k h, manyT, List.filter_cons_of_pos (by simpa using he), List.length_cons, manyT]; omega
theorem many_no {s : ByteArray} {M : Nat} {xs : List ByteArray} {n k : Nat} (H : M = n + manyT s (xs.drop k)) (h : k < xs.length) (he : ¬ xs[k] = s) : M = n + manyT s (xs.drop (k + 1)) := by
  rw [H, drop_cons xs k h, manyT, List.filter_cons_of_neg (by simpa using he), manyT]
theorem many_end {s : ByteArray} {M : Nat} {xs : List ByteArray} {n k : Nat} (H : M = n + manyT s (xs.drop k)) (h : ¬ k < xs.length) : M = n := by
  rw [H, drop_nil xs k h]; rfl
theorem hasS_hit {s : ByteArray} {B : Bool} {xs : List ByteArray} {k : Nat} (H : B = hasS s (xs.drop k)) (h : k < xs.length) (he : xs[k] = s) : B = true := by
  rw [H, drop_cons xs k h, hasS, List.any_cons, decide_eq_true he]; rfl
theorem hasS_next {s : ByteArray} {B : Bool} {xs : List ByteArray} {k : Nat} (H : B = hasS s (xs.drop k)) (h : k < xs.length) (he : ¬ xs[k] = s) : B = hasS s (xs.drop (k + 1)) := by
  rw [H, drop_cons xs k h, hasS, List.any_cons, decide_eq_false he]; rfl
theorem hasS_end {s : ByteArray} {B : Bool} {xs : List ByteArray} {k : Nat} (H : B = hasS s (xs.drop k)) (h : ¬ k < xs.length) : B = false := by
  rw [H, drop_nil xs k h]; rfl
end Go.Vc
