/-
  Closed facts of the row of the law 'FnRuleUses'.
-/
import Derived.Test.YtfpneepnnoldeaaDoorDoor0
import Derived.Test.YtfpneepnnoldeaaDoorGen3
set_option linter.unusedVariables false
namespace Go.Proofs.YtfpneepnnoldeaaDoor.fnRuleUses
open Go.ChangeShapes Go.WideShapes Go.ChangeAt Go.RowKit Go.Vc
theorem named : Tryd.pinned.checked.prog.funcNamed Rows.fnRuleUsesRow.func = some 5 := by kernel_rfl
theorem closed : joinedFacts Tryd.pinned.checked.prog 5 Tryd.f5 Rows.fnRuleUsesSpec Rows.fnRuleUsesRow = true := by kernel_rfl
theorem inst : Tryd.f5.isInstance Tryd.pinned.checked.prog Rows.fnRuleUsesRow.origin Rows.fnRuleUsesRow.targs := of_decide_eq_true (by kernel_rfl)
theorem wrap : Tryd.f5.isWrapper Tryd.pinned.checked.prog Rows.fnRuleUsesRow.wrapper Rows.fnRuleUsesRow.mainSum := by unfold Func.isWrapper; first | (rw [if_pos (by decide +kernel)]; kernel_rfl) | (rw [if_neg (by decide +kernel)]; exact ⟨rfl, rfl⟩)
end Go.Proofs.YtfpneepnnoldeaaDoor.fnRuleUses
