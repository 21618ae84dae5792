/-
  Two closed facts on the program.
-/
import Derived.Test.YtegknjcifmenpaaDoorRows
import Derived.ProofKit
namespace Go.Proofs.YtegknjcifmenpaaDoor
theorem own : ownKnob Tryd.prog.godebug = none := by kernel_rfl
theorem laid : laidOutB Tryd.prog = true := by kernel_rfl
end Go.Proofs.YtegknjcifmenpaaDoor
