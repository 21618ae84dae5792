/-
  Closed facts of the row of the law 'FnJoinSwap'.
-/
import Derived.Test.YtegknjcifmenpaaGreatDoorDoor0
import Derived.Test.YtegknjcifmenpaaGreatDoorVZ
set_option linter.unusedVariables false
namespace Go.Proofs.YtegknjcifmenpaaGreatDoor.fnJoinSwap
open Go.ChangeShapes Go.WideShapes Go.ChangeAt Go.RowKit Go.Vc
theorem named : Tryz.pinned.checked.prog.funcNamed Rows.fnJoinSwapRow.func = some 7 := by kernel_rfl
theorem closed : joinedFacts Tryz.pinned.checked.prog 7 Tryz.f7 Rows.fnJoinSwapSpec Rows.fnJoinSwapRow = true := by kernel_rfl
theorem inst : Tryz.f7.isInstance Tryz.pinned.checked.prog Rows.fnJoinSwapRow.origin Rows.fnJoinSwapRow.targs := of_decide_eq_true (by kernel_rfl)
theorem wrap : Tryz.f7.isWrapper Tryz.pinned.checked.prog Rows.fnJoinSwapRow.wrapper Rows.fnJoinSwapRow.mainSum := by unfold Func.isWrapper; first | (rw [if_pos (by decide +kernel)]; kernel_rfl) | (rw [if_neg (by decide +kernel)]; exact ⟨rfl, rfl⟩)
end Go.Proofs.YtegknjcifmenpaaGreatDoor.fnJoinSwap
