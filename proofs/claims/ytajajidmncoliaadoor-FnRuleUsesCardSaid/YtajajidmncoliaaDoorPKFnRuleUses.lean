/-
  Closed facts of the row of the law 'FnRuleUses'.
-/
import Derived.Test.YtajajidmncoliaaDoorDoor0
import Derived.Test.YtajajidmncoliaaDoorGen3
set_option linter.unusedVariables false
namespace Go.Proofs.YtajajidmncoliaaDoor.fnRuleUses
open Go.ChangeShapes Go.WideShapes Go.ChangeAt Go.RowKit Go.Vc
theorem named : Tryd.pinned.checked.prog.funcNamed Rows.fnRuleUsesRow.func = some 8 := by kernel_rfl
theorem closed : joinedFacts Tryd.pinned.checked.prog 8 Tryd.f8 Rows.fnRuleUsesSpec Rows.fnRuleUsesRow = true := by kernel_rfl
theorem inst : Tryd.f8.isInstance Tryd.pinned.checked.prog Rows.fnRuleUsesRow.origin Rows.fnRuleUsesRow.targs := of_decide_eq_true (by kernel_rfl)
theorem wrap : Tryd.f8.isWrapper Tryd.pinned.checked.prog Rows.fnRuleUsesRow.wrapper Rows.fnRuleUsesRow.mainSum := by unfold Func.isWrapper; first | (rw [if_pos (by decide +kernel)]; kernel_rfl) | (rw [if_neg (by decide +kernel)]; exact ⟨rfl, rfl⟩)
end Go.Proofs.YtajajidmncoliaaDoor.fnRuleUses
