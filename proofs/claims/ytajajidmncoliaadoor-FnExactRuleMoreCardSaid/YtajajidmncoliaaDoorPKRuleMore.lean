/-
  Closed facts of the row of the law 'FnExactRuleMore'.
-/
import Derived.Test.YtajajidmncoliaaDoorDoor0
import Derived.Test.YtajajidmncoliaaDoorGen3
set_option linter.unusedVariables false
namespace Go.Proofs.YtajajidmncoliaaDoor.fnExactRuleMore
open Go.ChangeShapes Go.WideShapes Go.ChangeAt Go.RowKit Go.Vc
theorem named : Tryd.pinned.checked.prog.funcNamed Rows.fnExactRuleMoreRow.func = some 11 := by kernel_rfl
theorem closed : joinedFacts Tryd.pinned.checked.prog 11 Tryd.f11 Rows.fnExactRuleMoreSpec Rows.fnExactRuleMoreRow = true := by kernel_rfl
theorem inst : Tryd.f11.isInstance Tryd.pinned.checked.prog Rows.fnExactRuleMoreRow.origin Rows.fnExactRuleMoreRow.targs := of_decide_eq_true (by kernel_rfl)
theorem wrap : Tryd.f11.isWrapper Tryd.pinned.checked.prog Rows.fnExactRuleMoreRow.wrapper Rows.fnExactRuleMoreRow.mainSum := by unfold Func.isWrapper; first | (rw [if_pos (by decide +kernel)]; kernel_rfl) | (rw [if_neg (by decide +kernel)]; exact ⟨rfl, rfl⟩)
end Go.Proofs.YtajajidmncoliaaDoor.fnExactRuleMore
