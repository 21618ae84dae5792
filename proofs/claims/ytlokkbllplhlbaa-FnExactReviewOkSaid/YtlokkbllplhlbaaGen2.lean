/-
  A small law on lists. No program is in sight here.
-/
import Derived.Test.YtlokkbllplhlbaaGen
set_option linter.unusedVariables false
namespace Go.Vc
theorem set_same {α : Type} {l : List α} {i : Nat} {x : α} (h : l[i]? = some x) : l.set i x = l := by
  obtain ⟨hi, rfl⟩ := List.getElem?_eq_some_iff.1 h
  exact List.set_getElem_self hi
end Go.Vc
