/-
  The number of the bytes' type.
-/
import Derived.Test.YtlokkbllplhlbaaTypes
set_option linter.unusedVariables false
namespace Go.Proofs.Ytlokkbllplhlbaa
open Go.RowKit Go.Vc
instance : Tid UInt8 := ⟨5⟩
end Go.Proofs.Ytlokkbllplhlbaa
