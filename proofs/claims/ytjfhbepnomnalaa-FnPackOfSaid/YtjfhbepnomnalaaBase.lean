/-
  Two closed facts on the program.
-/
import Derived.Test.YtjfhbepnomnalaaRows
import Derived.ProofKit
namespace Go.Proofs.Ytjfhbepnomnalaa
theorem own : ownKnob Try.prog.godebug = none := by kernel_rfl
theorem laid : laidOutB Try.prog = true := by kernel_rfl
end Go.Proofs.Ytjfhbepnomnalaa
