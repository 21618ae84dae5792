/-
  Two closed facts on the program.
-/
import Derived.Test.YtlpfoekbccbhlaaRows
import Derived.ProofKit
namespace Go.Proofs.Ytlpfoekbccbhlaa
theorem own : ownKnob Try.prog.godebug = none := by kernel_rfl
theorem laid : laidOutB Try.prog = true := by kernel_rfl
end Go.Proofs.Ytlpfoekbccbhlaa
