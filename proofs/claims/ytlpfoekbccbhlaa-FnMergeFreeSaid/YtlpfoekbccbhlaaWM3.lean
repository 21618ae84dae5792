/-
  Walks: the differences of two texts.
-/
import Derived.Test.YtlpfoekbccbhlaaWM2
import Derived.Test.YtlpfoekbccbhlaaWCopy
import Derived.Test.YtlpfoekbccbhlaaWCut
import Derived.Test.YtlpfoekbccbhlaaKeep
import Derived.Test.YtlpfoekbccbhlaaVPM
set_option linter.unusedVariables false
namespace Go.Proofs.Ytlpfoekbccbhlaa
open Go.RowKit Go.Vc
open Go.Vc.Rep (rd)
open Go.Vc.Own (own)

end Go.Proofs.Ytlpfoekbccbhlaa
