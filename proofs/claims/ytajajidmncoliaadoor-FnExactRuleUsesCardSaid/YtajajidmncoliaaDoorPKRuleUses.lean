/-
  Closed facts of the row of the law 'FnExactRuleUses'.
-/
import Derived.Test.YtajajidmncoliaaDoorDoor0
import Derived.Test.YtajajidmncoliaaDoorGen3
set_option linter.unusedVariables false
namespace Go.Proofs.YtajajidmncoliaaDoor.fnExactRuleUses
open Go.ChangeShapes Go.WideShapes Go.ChangeAt Go.RowKit Go.Vc
theorem named : Tryd.pinned.checked.prog.funcNamed Rows.fnExactRuleUsesRow.func = some 6 := by kernel_rfl
theorem closed : joinedFacts Tryd.pinned.checked.prog 6 Tryd.f6 Rows.fnExactRuleUsesSpec Rows.fnExactRuleUsesRow = true := by kernel_rfl
theorem inst : Tryd.f6.isInstance Tryd.pinned.checked.prog Rows.fnExactRuleUsesRow.origin Rows.fnExactRuleUsesRow.targs := of_decide_eq_true (by kernel_rfl)
theorem wrap : Tryd.f6.isWrapper Tryd.pinned.checked.prog Rows.fnExactRuleUsesRow.wrapper Rows.fnExactRuleUsesRow.mainSum := by unfold Func.isWrapper; first | (rw [if_pos (by decide +kernel)]; kernel_rfl) | (rw [if_neg (by decide +kernel)]; exact ⟨rfl, rfl⟩)
end Go.Proofs.YtajajidmncoliaaDoor.fnExactRuleUses
