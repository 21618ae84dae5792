/-
  The number of the bytes' type.
-/
import Derived.Test.YtlpfoekbccbhlaaTypes
set_option linter.unusedVariables false
namespace Go.Proofs.Ytlpfoekbccbhlaa
open Go.RowKit Go.Vc
instance : Tid UInt8 := ⟨5⟩
end Go.Proofs.Ytlpfoekbccbhlaa
