/-
  Closed facts of the row of the law 'FnExactBlameWho'.
-/
import Derived.Test.YthhmaclhggmneaaGreatDoorVN
set_option linter.unusedVariables false
namespace Go.Proofs.YthhmaclhggmneaaGreatDoor.fnExactBlameWho
open Go.ChangeShapes Go.WideShapes Go.ChangeAt Go.RowKit Go.Vc
theorem named : Tryz.pinned.checked.prog.funcNamed Rows.fnExactBlameWhoRow.func = some 3 := by kernel_rfl
theorem closed : joinedFacts Tryz.pinned.checked.prog 3 Tryz.f3 Rows.fnExactBlameWhoSpec Rows.fnExactBlameWhoRow = true := by kernel_rfl
theorem inst : Tryz.f3.isInstance Tryz.pinned.checked.prog Rows.fnExactBlameWhoRow.origin Rows.fnExactBlameWhoRow.targs := of_decide_eq_true (by kernel_rfl)
theorem wrap : Tryz.f3.isWrapper Tryz.pinned.checked.prog Rows.fnExactBlameWhoRow.wrapper Rows.fnExactBlameWhoRow.mainSum := by unfold Func.isWrapper; first | (rw [if_pos (by decide +kernel)]; kernel_rfl) | (rw [if_neg (by decide +kernel)]; exact ⟨rfl, rfl⟩)
end Go.Proofs.YthhmaclhggmneaaGreatDoor.fnExactBlameWho
