/-
  Closed facts of the row of the law 'FnJoinFree'.
-/
import Derived.Test.YtegknjcifmenpaaGreatDoorDoor0
import Derived.Test.YtegknjcifmenpaaGreatDoorVZ
set_option linter.unusedVariables false
namespace Go.Proofs.YtegknjcifmenpaaGreatDoor.fnJoinFree
open Go.ChangeShapes Go.WideShapes Go.ChangeAt Go.RowKit Go.Vc
theorem named : Tryz.pinned.checked.prog.funcNamed Rows.fnJoinFreeRow.func = some 6 := by kernel_rfl
theorem closed : joinedFacts Tryz.pinned.checked.prog 6 Tryz.f6 Rows.fnJoinFreeSpec Rows.fnJoinFreeRow = true := by kernel_rfl
theorem inst : Tryz.f6.isInstance Tryz.pinned.checked.prog Rows.fnJoinFreeRow.origin Rows.fnJoinFreeRow.targs := of_decide_eq_true (by kernel_rfl)
theorem wrap : Tryz.f6.isWrapper Tryz.pinned.checked.prog Rows.fnJoinFreeRow.wrapper Rows.fnJoinFreeRow.mainSum := by unfold Func.isWrapper; first | (rw [if_pos (by decide +kernel)]; kernel_rfl) | (rw [if_neg (by decide +kernel)]; exact ⟨rfl, rfl⟩)
end Go.Proofs.YtegknjcifmenpaaGreatDoor.fnJoinFree
