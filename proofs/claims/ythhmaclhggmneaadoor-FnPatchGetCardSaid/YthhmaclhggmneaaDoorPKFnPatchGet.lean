/-
  Closed facts of the row of the law 'FnPatchGet'.
-/
import Derived.Test.YthhmaclhggmneaaDoorVN
set_option linter.unusedVariables false
namespace Go.Proofs.YthhmaclhggmneaaDoor.fnPatchGet
open Go.ChangeShapes Go.WideShapes Go.ChangeAt Go.RowKit Go.Vc
theorem named : Tryd.pinned.checked.prog.funcNamed Rows.fnPatchGetRow.func = some 5 := by kernel_rfl
theorem closed : joinedFacts Tryd.pinned.checked.prog 5 Tryd.f5 Rows.fnPatchGetSpec Rows.fnPatchGetRow = true := by kernel_rfl
theorem inst : Tryd.f5.isInstance Tryd.pinned.checked.prog Rows.fnPatchGetRow.origin Rows.fnPatchGetRow.targs := of_decide_eq_true (by kernel_rfl)
theorem wrap : Tryd.f5.isWrapper Tryd.pinned.checked.prog Rows.fnPatchGetRow.wrapper Rows.fnPatchGetRow.mainSum := by unfold Func.isWrapper; first | (rw [if_pos (by decide +kernel)]; kernel_rfl) | (rw [if_neg (by decide +kernel)]; exact ⟨rfl, rfl⟩)
end Go.Proofs.YthhmaclhggmneaaDoor.fnPatchGet
