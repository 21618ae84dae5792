/-
  Closed facts of the row of the law 'FnPatchPut'.
-/
import Derived.Test.YthhmaclhggmneaaDoorVN
set_option linter.unusedVariables false
namespace Go.Proofs.YthhmaclhggmneaaDoor.fnPatchPut
open Go.ChangeShapes Go.WideShapes Go.ChangeAt Go.RowKit Go.Vc
theorem named : Tryd.pinned.checked.prog.funcNamed Rows.fnPatchPutRow.func = some 4 := by kernel_rfl
theorem closed : joinedFacts Tryd.pinned.checked.prog 4 Tryd.f4 Rows.fnPatchPutSpec Rows.fnPatchPutRow = true := by kernel_rfl
theorem inst : Tryd.f4.isInstance Tryd.pinned.checked.prog Rows.fnPatchPutRow.origin Rows.fnPatchPutRow.targs := of_decide_eq_true (by kernel_rfl)
theorem wrap : Tryd.f4.isWrapper Tryd.pinned.checked.prog Rows.fnPatchPutRow.wrapper Rows.fnPatchPutRow.mainSum := by unfold Func.isWrapper; first | (rw [if_pos (by decide +kernel)]; kernel_rfl) | (rw [if_neg (by decide +kernel)]; exact ⟨rfl, rfl⟩)
end Go.Proofs.YthhmaclhggmneaaDoor.fnPatchPut
