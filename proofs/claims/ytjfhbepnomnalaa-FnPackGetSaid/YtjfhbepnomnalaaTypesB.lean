/-
  The number of the bytes' type.
-/
import Derived.Test.YtjfhbepnomnalaaTypes
set_option linter.unusedVariables false
namespace Go.Proofs.Ytjfhbepnomnalaa
open Go.RowKit Go.Vc
instance : Tid UInt8 := ⟨5⟩
end Go.Proofs.Ytjfhbepnomnalaa
