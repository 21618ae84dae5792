/-
  Closed facts of the row of the law 'FnOwnerOf'.
-/
import Derived.Test.YtfpneepnnoldeaaDoorDoor0
import Derived.Test.YtfpneepnnoldeaaDoorGen3
set_option linter.unusedVariables false
namespace Go.Proofs.YtfpneepnnoldeaaDoor.fnOwnerOf
open Go.ChangeShapes Go.WideShapes Go.ChangeAt Go.RowKit Go.Vc
theorem named : Tryd.pinned.checked.prog.funcNamed Rows.fnOwnerOfRow.func = some 3 := by kernel_rfl
theorem closed : joinedFacts Tryd.pinned.checked.prog 3 Tryd.f3 Rows.fnOwnerOfSpec Rows.fnOwnerOfRow = true := by kernel_rfl
theorem inst : Tryd.f3.isInstance Tryd.pinned.checked.prog Rows.fnOwnerOfRow.origin Rows.fnOwnerOfRow.targs := of_decide_eq_true (by kernel_rfl)
theorem wrap : Tryd.f3.isWrapper Tryd.pinned.checked.prog Rows.fnOwnerOfRow.wrapper Rows.fnOwnerOfRow.mainSum := by unfold Func.isWrapper; first | (rw [if_pos (by decide +kernel)]; kernel_rfl) | (rw [if_neg (by decide +kernel)]; exact ⟨rfl, rfl⟩)
end Go.Proofs.YtfpneepnnoldeaaDoor.fnOwnerOf
