/-
  Closed facts of the row of the law 'FnExactRuleLost'.
-/
import Derived.Test.YtajajidmncoliaaDoorDoor0
import Derived.Test.YtajajidmncoliaaDoorGen3
set_option linter.unusedVariables false
namespace Go.Proofs.YtajajidmncoliaaDoor.fnExactRuleLost
open Go.ChangeShapes Go.WideShapes Go.ChangeAt Go.RowKit Go.Vc
theorem named : Tryd.pinned.checked.prog.funcNamed Rows.fnExactRuleLostRow.func = some 9 := by kernel_rfl
theorem closed : joinedFacts Tryd.pinned.checked.prog 9 Tryd.f9 Rows.fnExactRuleLostSpec Rows.fnExactRuleLostRow = true := by kernel_rfl
theorem inst : Tryd.f9.isInstance Tryd.pinned.checked.prog Rows.fnExactRuleLostRow.origin Rows.fnExactRuleLostRow.targs := of_decide_eq_true (by kernel_rfl)
theorem wrap : Tryd.f9.isWrapper Tryd.pinned.checked.prog Rows.fnExactRuleLostRow.wrapper Rows.fnExactRuleLostRow.mainSum := by unfold Func.isWrapper; first | (rw [if_pos (by decide +kernel)]; kernel_rfl) | (rw [if_neg (by decide +kernel)]; exact ⟨rfl, rfl⟩)
end Go.Proofs.YtajajidmncoliaaDoor.fnExactRuleLost
