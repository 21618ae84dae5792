/-
  Closed facts of the row of the law 'FnRuleMore'.
-/
import Derived.Test.YtfpneepnnoldeaaDoorDoor0
import Derived.Test.YtfpneepnnoldeaaDoorVZ
set_option linter.unusedVariables false
namespace Go.Proofs.YtfpneepnnoldeaaDoor.fnRuleMore
open Go.ChangeShapes Go.WideShapes Go.ChangeAt Go.RowKit Go.Vc
theorem named : Tryd.pinned.checked.prog.funcNamed Rows.fnRuleMoreRow.func = some 11 := by kernel_rfl
theorem closed : joinedFacts Tryd.pinned.checked.prog 11 Tryd.f11 Rows.fnRuleMoreSpec Rows.fnRuleMoreRow = true := by kernel_rfl
theorem inst : Tryd.f11.isInstance Tryd.pinned.checked.prog Rows.fnRuleMoreRow.origin Rows.fnRuleMoreRow.targs := of_decide_eq_true (by kernel_rfl)
theorem wrap : Tryd.f11.isWrapper Tryd.pinned.checked.prog Rows.fnRuleMoreRow.wrapper Rows.fnRuleMoreRow.mainSum := by unfold Func.isWrapper; first | (rw [if_pos (by decide +kernel)]; kernel_rfl) | (rw [if_neg (by decide +kernel)]; exact ⟨rfl, rfl⟩)
end Go.Proofs.YtfpneepnnoldeaaDoor.fnRuleMore
