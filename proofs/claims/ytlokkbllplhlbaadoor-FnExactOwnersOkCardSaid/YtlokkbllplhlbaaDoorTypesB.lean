/-
  The number of the bytes' type.
-/
import Derived.Test.YtlokkbllplhlbaaDoorTypes
set_option linter.unusedVariables false
namespace Go.Proofs.YtlokkbllplhlbaaDoor
open Go.RowKit Go.Vc
instance : Tid UInt8 := ⟨5⟩
end Go.Proofs.YtlokkbllplhlbaaDoor
