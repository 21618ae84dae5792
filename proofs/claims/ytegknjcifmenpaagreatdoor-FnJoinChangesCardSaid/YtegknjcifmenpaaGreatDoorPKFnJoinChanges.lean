/-
  Closed facts of the row of the law 'FnJoinChanges'.
-/
import Derived.Test.YtegknjcifmenpaaGreatDoorVZ
set_option linter.unusedVariables false
namespace Go.Proofs.YtegknjcifmenpaaGreatDoor.fnJoinChanges
open Go.ChangeShapes Go.WideShapes Go.ChangeAt Go.RowKit Go.Vc
theorem named : Tryz.pinned.checked.prog.funcNamed Rows.fnJoinChangesRow.func = some 9 := by kernel_rfl
theorem closed : joinedFacts Tryz.pinned.checked.prog 9 Tryz.f9 Rows.fnJoinChangesSpec Rows.fnJoinChangesRow = true := by kernel_rfl
theorem inst : Tryz.f9.isInstance Tryz.pinned.checked.prog Rows.fnJoinChangesRow.origin Rows.fnJoinChangesRow.targs := of_decide_eq_true (by kernel_rfl)
theorem wrap : Tryz.f9.isWrapper Tryz.pinned.checked.prog Rows.fnJoinChangesRow.wrapper Rows.fnJoinChangesRow.mainSum := by unfold Func.isWrapper; first | (rw [if_pos (by decide +kernel)]; kernel_rfl) | (rw [if_neg (by decide +kernel)]; exact ⟨rfl, rfl⟩)
end Go.Proofs.YtegknjcifmenpaaGreatDoor.fnJoinChanges
