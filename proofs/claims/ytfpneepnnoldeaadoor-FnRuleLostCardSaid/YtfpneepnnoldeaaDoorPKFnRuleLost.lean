/-
  Closed facts of the row of the law 'FnRuleLost'.
-/
import Derived.Test.YtfpneepnnoldeaaDoorDoor0
import Derived.Test.YtfpneepnnoldeaaDoorGen3
set_option linter.unusedVariables false
namespace Go.Proofs.YtfpneepnnoldeaaDoor.fnRuleLost
open Go.ChangeShapes Go.WideShapes Go.ChangeAt Go.RowKit Go.Vc
theorem named : Tryd.pinned.checked.prog.funcNamed Rows.fnRuleLostRow.func = some 10 := by kernel_rfl
theorem closed : joinedFacts Tryd.pinned.checked.prog 10 Tryd.f10 Rows.fnRuleLostSpec Rows.fnRuleLostRow = true := by kernel_rfl
theorem inst : Tryd.f10.isInstance Tryd.pinned.checked.prog Rows.fnRuleLostRow.origin Rows.fnRuleLostRow.targs := of_decide_eq_true (by kernel_rfl)
theorem wrap : Tryd.f10.isWrapper Tryd.pinned.checked.prog Rows.fnRuleLostRow.wrapper Rows.fnRuleLostRow.mainSum := by unfold Func.isWrapper; first | (rw [if_pos (by decide +kernel)]; kernel_rfl) | (rw [if_neg (by decide +kernel)]; exact ⟨rfl, rfl⟩)
end Go.Proofs.YtfpneepnnoldeaaDoor.fnRuleLost
