/-
  The number of the bytes' type.
-/
import Derived.Test.YtfpneepnnoldeaaTypes
set_option linter.unusedVariables false
namespace Go.Proofs.Ytfpneepnnoldeaa
open Go.RowKit Go.Vc
instance : Tid UInt8 := ⟨5⟩
end Go.Proofs.Ytfpneepnnoldeaa
