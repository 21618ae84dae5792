/-
  Closed facts of the row of the law 'FnTreeSet'.
-/
import Derived.Test.YtfpneepnnoldeaaDoorDoor0
import Derived.Test.YtfpneepnnoldeaaDoorGen3
set_option linter.unusedVariables false
namespace Go.Proofs.YtfpneepnnoldeaaDoor.fnTreeSet
open Go.ChangeShapes Go.WideShapes Go.ChangeAt Go.RowKit Go.Vc
theorem named : Tryd.pinned.checked.prog.funcNamed Rows.fnTreeSetRow.func = some 6 := by kernel_rfl
theorem closed : joinedFacts Tryd.pinned.checked.prog 6 Tryd.f6 Rows.fnTreeSetSpec Rows.fnTreeSetRow = true := by kernel_rfl
theorem inst : Tryd.f6.isInstance Tryd.pinned.checked.prog Rows.fnTreeSetRow.origin Rows.fnTreeSetRow.targs := of_decide_eq_true (by kernel_rfl)
theorem wrap : Tryd.f6.isWrapper Tryd.pinned.checked.prog Rows.fnTreeSetRow.wrapper Rows.fnTreeSetRow.mainSum := by unfold Func.isWrapper; first | (rw [if_pos (by decide +kernel)]; kernel_rfl) | (rw [if_neg (by decide +kernel)]; exact ⟨rfl, rfl⟩)
end Go.Proofs.YtfpneepnnoldeaaDoor.fnTreeSet
