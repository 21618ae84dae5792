/-
  Closed facts of the row of the law 'FnJoinPath'.
-/
import Derived.Test.YtegknjcifmenpaaGreatDoorDoor0
import Derived.Test.YtegknjcifmenpaaGreatDoorVZ
set_option linter.unusedVariables false
namespace Go.Proofs.YtegknjcifmenpaaGreatDoor.fnJoinPath
open Go.ChangeShapes Go.WideShapes Go.ChangeAt Go.RowKit Go.Vc
theorem named : Tryz.pinned.checked.prog.funcNamed Rows.fnJoinPathRow.func = some 10 := by kernel_rfl
theorem closed : joinedFacts Tryz.pinned.checked.prog 10 Tryz.f10 Rows.fnJoinPathSpec Rows.fnJoinPathRow = true := by kernel_rfl
theorem inst : Tryz.f10.isInstance Tryz.pinned.checked.prog Rows.fnJoinPathRow.origin Rows.fnJoinPathRow.targs := of_decide_eq_true (by kernel_rfl)
theorem wrap : Tryz.f10.isWrapper Tryz.pinned.checked.prog Rows.fnJoinPathRow.wrapper Rows.fnJoinPathRow.mainSum := by unfold Func.isWrapper; first | (rw [if_pos (by decide +kernel)]; kernel_rfl) | (rw [if_neg (by decide +kernel)]; exact ⟨rfl, rfl⟩)
end Go.Proofs.YtegknjcifmenpaaGreatDoor.fnJoinPath
