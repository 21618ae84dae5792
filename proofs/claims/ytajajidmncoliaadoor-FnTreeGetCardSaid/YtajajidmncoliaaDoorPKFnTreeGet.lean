/-
  Closed facts of the row of the law 'FnTreeGet'.
-/
import Derived.Test.YtajajidmncoliaaDoorDoor0
import Derived.Test.YtajajidmncoliaaDoorGen3
set_option linter.unusedVariables false
namespace Go.Proofs.YtajajidmncoliaaDoor.fnTreeGet
open Go.ChangeShapes Go.WideShapes Go.ChangeAt Go.RowKit Go.Vc
theorem named : Tryd.pinned.checked.prog.funcNamed Rows.fnTreeGetRow.func = some 5 := by kernel_rfl
theorem closed : joinedFacts Tryd.pinned.checked.prog 5 Tryd.f5 Rows.fnTreeGetSpec Rows.fnTreeGetRow = true := by kernel_rfl
theorem inst : Tryd.f5.isInstance Tryd.pinned.checked.prog Rows.fnTreeGetRow.origin Rows.fnTreeGetRow.targs := of_decide_eq_true (by kernel_rfl)
theorem wrap : Tryd.f5.isWrapper Tryd.pinned.checked.prog Rows.fnTreeGetRow.wrapper Rows.fnTreeGetRow.mainSum := by unfold Func.isWrapper; first | (rw [if_pos (by decide +kernel)]; kernel_rfl) | (rw [if_neg (by decide +kernel)]; exact ⟨rfl, rfl⟩)
end Go.Proofs.YtajajidmncoliaaDoor.fnTreeGet
