/-
  The number of the bytes' type.
-/
import Derived.Test.YtajajidmncoliaaDoorTypes
set_option linter.unusedVariables false
namespace Go.Proofs.YtajajidmncoliaaDoor
open Go.RowKit Go.Vc
instance : Tid UInt8 := ⟨5⟩
end Go.Proofs.YtajajidmncoliaaDoor
