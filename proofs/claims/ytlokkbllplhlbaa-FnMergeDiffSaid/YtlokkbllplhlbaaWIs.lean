/-
  Contracts that take the answer as an equation. A struct's cells behind 'h := x[i]'.
-/
import Derived.Test.YtlokkbllplhlbaaW1
import Derived.Test.YtlokkbllplhlbaaTail
set_option linter.unusedVariables false
namespace Go.Vc
open Go.RowKit
open Rep (rd)
/-- a variable's block, new -/
theorem boxed {w wb : World} {vs : List Value} {t : TypeId} (h : wb = w.alloc (.cells vs.toArray t)) : Below w.heap.size w wb ∧ wb.heap.size = w.heap.size + 1 ∧ ∀ j u, vs[j]? = some u → wb.cell? ⟨w.heap.size, j, none⟩ = some u := by
  subst h
  refine ⟨(Below.refl _ _).alloc (Nat.le_refl _) _, by simp, fun j u hu => ?_⟩
  rw [cell_of_row _ _ j _ _ (0, 0) (heap_alloc_new _ _)]
  simpa using hu
theorem dec_le_t {a b : Int} (h : a ≤ b) : decide (a ≤ b) = true := decide_eq_true h
theorem dec_le_f {a b : Int} (h : ¬ a ≤ b) : decide (a ≤ b) = false := decide_eq_false h
end Go.Vc
namespace Go.Proofs.Ytlokkbllplhlbaa
open Go.RowKit Go.Vc
open Go.Vc.Rep (rd)
open Go.Vc.Own (own)
theorem textOk_is {S : Nat → Prop} (v : Value) (xs : List ByteArray) (w : World) (hv : rd S w [v] xs) {b : Bool} (h : textB xs = b) :
    Calls Try.prog 19 #[v] w fun e w' => e = .returned (.bool b) ∧ w = w' := by rw [← h]; exact textOk_any v xs w hv
theorem within_is (n lo hi : Int) (w : World) {b : Bool} (h : withinB n lo hi = b) :
    Calls Try.prog 46 #[.int .i64 n, .int .i64 lo, .int .i64 hi] w fun e w' => e = .returned (.bool b) ∧ w = w' := by rw [← h]; exact within_any n lo hi w
theorem l1In_is (n lo hi : Int) (w : World) {b : Bool} (h : withinB n lo hi = b) :
    Calls Try.prog 50 #[.int .i64 n, .int .i64 lo, .int .i64 hi] w fun e w' => e = .returned (.bool b) ∧ w = w' := by rw [← h]; exact l1In_any n lo hi w
theorem l1Ok_is {S : Nat → Prop} (v : Value) (xs : List ByteArray) (w : World) (hv : rd S w [v] xs) {b : Bool} (h : textB xs = b) :
    Calls Try.prog 49 #[v] w fun e w' => e = .returned (.bool b) ∧ w = w' := by rw [← h]; exact l1Ok_any v xs w hv
end Go.Proofs.Ytlokkbllplhlbaa
