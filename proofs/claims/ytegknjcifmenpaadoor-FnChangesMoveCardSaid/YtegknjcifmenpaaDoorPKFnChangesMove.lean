/-
  Closed facts of the row of the law 'FnChangesMove'.
-/
import Derived.Test.YtegknjcifmenpaaDoorDoor0
import Derived.Test.YtegknjcifmenpaaDoorVZ
set_option linter.unusedVariables false
namespace Go.Proofs.YtegknjcifmenpaaDoor.fnChangesMove
open Go.ChangeShapes Go.WideShapes Go.ChangeAt Go.RowKit Go.Vc
theorem named : Tryd.pinned.checked.prog.funcNamed Rows.fnChangesMoveRow.func = some 3 := by kernel_rfl
theorem closed : joinedFacts Tryd.pinned.checked.prog 3 Tryd.f3 Rows.fnChangesMoveSpec Rows.fnChangesMoveRow = true := by kernel_rfl
theorem inst : Tryd.f3.isInstance Tryd.pinned.checked.prog Rows.fnChangesMoveRow.origin Rows.fnChangesMoveRow.targs := of_decide_eq_true (by kernel_rfl)
theorem wrap : Tryd.f3.isWrapper Tryd.pinned.checked.prog Rows.fnChangesMoveRow.wrapper Rows.fnChangesMoveRow.mainSum := by unfold Func.isWrapper; first | (rw [if_pos (by decide +kernel)]; kernel_rfl) | (rw [if_neg (by decide +kernel)]; exact ⟨rfl, rfl⟩)
end Go.Proofs.YtegknjcifmenpaaDoor.fnChangesMove
