/-
  Closed facts of the row of the law 'FnJoinOne'.
-/
import Derived.Test.YtegknjcifmenpaaGreatDoorDoor0
import Derived.Test.YtegknjcifmenpaaGreatDoorVZ
set_option linter.unusedVariables false
namespace Go.Proofs.YtegknjcifmenpaaGreatDoor.fnJoinOne
open Go.ChangeShapes Go.WideShapes Go.ChangeAt Go.RowKit Go.Vc
theorem named : Tryz.pinned.checked.prog.funcNamed Rows.fnJoinOneRow.func = some 8 := by kernel_rfl
theorem closed : joinedFacts Tryz.pinned.checked.prog 8 Tryz.f8 Rows.fnJoinOneSpec Rows.fnJoinOneRow = true := by kernel_rfl
theorem inst : Tryz.f8.isInstance Tryz.pinned.checked.prog Rows.fnJoinOneRow.origin Rows.fnJoinOneRow.targs := of_decide_eq_true (by kernel_rfl)
theorem wrap : Tryz.f8.isWrapper Tryz.pinned.checked.prog Rows.fnJoinOneRow.wrapper Rows.fnJoinOneRow.mainSum := by unfold Func.isWrapper; first | (rw [if_pos (by decide +kernel)]; kernel_rfl) | (rw [if_neg (by decide +kernel)]; exact ⟨rfl, rfl⟩)
end Go.Proofs.YtegknjcifmenpaaGreatDoor.fnJoinOne
