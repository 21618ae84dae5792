/-
  A struct's value out of its cells. No program is in sight here.
-/
import Derived.Test.YtfpneepnnoldeaaDoorVF
set_option linter.unusedVariables false
namespace Go.Vc
open Go.RowKit
theorem agg_of_cells {v : Value} {l : List Value} (h : v.cells.toList = l) (hl : l.length ≠ 1) : v = .agg l.toArray := by
  subst h
  cases v with
  | agg cs => rfl
  | _ => exact absurd rfl hl
end Go.Vc
