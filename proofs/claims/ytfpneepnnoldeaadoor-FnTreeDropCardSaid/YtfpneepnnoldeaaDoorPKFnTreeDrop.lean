/-
  Closed facts of the row of the law 'FnTreeDrop'.
-/
import Derived.Test.YtfpneepnnoldeaaDoorDoor0
import Derived.Test.YtfpneepnnoldeaaDoorGen3
set_option linter.unusedVariables false
namespace Go.Proofs.YtfpneepnnoldeaaDoor.fnTreeDrop
open Go.ChangeShapes Go.WideShapes Go.ChangeAt Go.RowKit Go.Vc
theorem named : Tryd.pinned.checked.prog.funcNamed Rows.fnTreeDropRow.func = some 4 := by kernel_rfl
theorem closed : joinedFacts Tryd.pinned.checked.prog 4 Tryd.f4 Rows.fnTreeDropSpec Rows.fnTreeDropRow = true := by kernel_rfl
theorem inst : Tryd.f4.isInstance Tryd.pinned.checked.prog Rows.fnTreeDropRow.origin Rows.fnTreeDropRow.targs := of_decide_eq_true (by kernel_rfl)
theorem wrap : Tryd.f4.isWrapper Tryd.pinned.checked.prog Rows.fnTreeDropRow.wrapper Rows.fnTreeDropRow.mainSum := by unfold Func.isWrapper; first | (rw [if_pos (by decide +kernel)]; kernel_rfl) | (rw [if_neg (by decide +kernel)]; exact ⟨rfl, rfl⟩)
end Go.Proofs.YtfpneepnnoldeaaDoor.fnTreeDrop
