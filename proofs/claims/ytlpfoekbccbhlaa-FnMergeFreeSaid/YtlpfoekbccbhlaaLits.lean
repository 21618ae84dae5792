/-
  Literals of strings and of ints, as slices. No program is in sight here.
-/
import Derived.Test.YtlpfoekbccbhlaaVB
import Derived.Test.YtlpfoekbccbhlaaVI
set_option linter.unusedVariables false
namespace Go.Vc
open Go.RowKit
open Rep (rd)
open Own (own)

/-- a literal of strings -/
theorem lit_strs {w : World} {g : Nat} {e : TypeId} (ss : List ByteArray) (h : w.heap[g]? = some (.cells (ss.map Value.string).toArray e (0, 0))) (hz : ∀ s ∈ ss, s.size ≤ maxLen) (hl : ss.length ≤ maxLen) :
    IsSlice (fun b => b = g) w (some ⟨g, 0, none⟩) ss.length ss := by
  refine ⟨Nat.le_refl _, hl, fun i hi => ⟨g, 0, [.string ss[i]], rfl, rfl, ?_, ⟨rfl, hz _ (List.getElem_mem hi)⟩, by decide⟩⟩
  intro j u hu
  have hj : j = 0 := by
    have := (List.getElem?_eq_some_iff.1 hu).1
    simpa using this
  subst hj
  simp at hu
  subst hu
  rw [cell_of_row w g _ _ e (0, 0) h]
  simp [Rep.sz, hi]
/-- a literal of ints -/
theorem lit_ints {w : World} {g : Nat} {e : TypeId} (ss : List Int) (h : w.heap[g]? = some (.cells (ss.map (Value.int .i64)).toArray e (0, 0))) (hz : ∀ s ∈ ss, I64 s) (hl : ss.length ≤ maxLen) :
    IsSlice (fun b => b = g) w (some ⟨g, 0, none⟩) ss.length ss := by
  refine ⟨Nat.le_refl _, hl, fun i hi => ⟨g, 0, [.int .i64 ss[i]], rfl, rfl, ?_, ⟨rfl, hz _ (List.getElem_mem hi)⟩, by decide⟩⟩
  intro j u hu
  have hj : j = 0 := by
    have := (List.getElem?_eq_some_iff.1 hu).1
    simpa using this
  subst hj
  simp at hu
  subst hu
  rw [cell_of_row w g _ _ e (0, 0) h]
  simp [Rep.sz, hi]
end Go.Vc
