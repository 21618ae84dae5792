/-
  Closed facts of the row of the law 'FnExactSendOf'.
-/
import Derived.Test.YtmblockojnaffaaDoorVN
set_option linter.unusedVariables false
namespace Go.Proofs.YtmblockojnaffaaDoor.fnExactSendOf
open Go.ChangeShapes Go.WideShapes Go.ChangeAt Go.RowKit Go.Vc
theorem named : Tryd.pinned.checked.prog.funcNamed Rows.fnExactSendOfRow.func = some 12 := by kernel_rfl
theorem closed : joinedFacts Tryd.pinned.checked.prog 12 Tryd.f12 Rows.fnExactSendOfSpec Rows.fnExactSendOfRow = true := by kernel_rfl
theorem inst : Tryd.f12.isInstance Tryd.pinned.checked.prog Rows.fnExactSendOfRow.origin Rows.fnExactSendOfRow.targs := of_decide_eq_true (by kernel_rfl)
theorem wrap : Tryd.f12.isWrapper Tryd.pinned.checked.prog Rows.fnExactSendOfRow.wrapper Rows.fnExactSendOfRow.mainSum := by unfold Func.isWrapper; first | (rw [if_pos (by decide +kernel)]; kernel_rfl) | (rw [if_neg (by decide +kernel)]; exact ⟨rfl, rfl⟩)
end Go.Proofs.YtmblockojnaffaaDoor.fnExactSendOf
