/-
  Closed facts of the row of the law 'FnExactRuleMove'.
-/
import Derived.Test.YtfpneepnnoldeaaDoorDoor0
import Derived.Test.YtfpneepnnoldeaaDoorVZ
set_option linter.unusedVariables false
namespace Go.Proofs.YtfpneepnnoldeaaDoor.fnExactRuleMove
open Go.ChangeShapes Go.WideShapes Go.ChangeAt Go.RowKit Go.Vc
theorem named : Tryd.pinned.checked.prog.funcNamed Rows.fnExactRuleMoveRow.func = some 8 := by kernel_rfl
theorem closed : joinedFacts Tryd.pinned.checked.prog 8 Tryd.f8 Rows.fnExactRuleMoveSpec Rows.fnExactRuleMoveRow = true := by kernel_rfl
theorem inst : Tryd.f8.isInstance Tryd.pinned.checked.prog Rows.fnExactRuleMoveRow.origin Rows.fnExactRuleMoveRow.targs := of_decide_eq_true (by kernel_rfl)
theorem wrap : Tryd.f8.isWrapper Tryd.pinned.checked.prog Rows.fnExactRuleMoveRow.wrapper Rows.fnExactRuleMoveRow.mainSum := by unfold Func.isWrapper; first | (rw [if_pos (by decide +kernel)]; kernel_rfl) | (rw [if_neg (by decide +kernel)]; exact ⟨rfl, rfl⟩)
end Go.Proofs.YtfpneepnnoldeaaDoor.fnExactRuleMove
