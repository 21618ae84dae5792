/-
  The number of the bytes' type.
-/
import Derived.Test.YtfpneepnnoldeaaDoorTypes
set_option linter.unusedVariables false
namespace Go.Proofs.YtfpneepnnoldeaaDoor
open Go.RowKit Go.Vc
instance : Tid UInt8 := ⟨5⟩
end Go.Proofs.YtfpneepnnoldeaaDoor
