/-
  Closed facts of the row of the law 'FnRuleMove'.
-/
import Derived.Test.YtegknjcifmenpaaDoorDoor0
import Derived.Test.YtegknjcifmenpaaDoorVZ
set_option linter.unusedVariables false
namespace Go.Proofs.YtegknjcifmenpaaDoor.fnRuleMove
open Go.ChangeShapes Go.WideShapes Go.ChangeAt Go.RowKit Go.Vc
theorem named : Tryd.pinned.checked.prog.funcNamed Rows.fnRuleMoveRow.func = some 4 := by kernel_rfl
theorem closed : joinedFacts Tryd.pinned.checked.prog 4 Tryd.f4 Rows.fnRuleMoveSpec Rows.fnRuleMoveRow = true := by kernel_rfl
theorem inst : Tryd.f4.isInstance Tryd.pinned.checked.prog Rows.fnRuleMoveRow.origin Rows.fnRuleMoveRow.targs := of_decide_eq_true (by kernel_rfl)
theorem wrap : Tryd.f4.isWrapper Tryd.pinned.checked.prog Rows.fnRuleMoveRow.wrapper Rows.fnRuleMoveRow.mainSum := by unfold Func.isWrapper; first | (rw [if_pos (by decide +kernel)]; kernel_rfl) | (rw [if_neg (by decide +kernel)]; exact ⟨rfl, rfl⟩)
end Go.Proofs.YtegknjcifmenpaaDoor.fnRuleMove
