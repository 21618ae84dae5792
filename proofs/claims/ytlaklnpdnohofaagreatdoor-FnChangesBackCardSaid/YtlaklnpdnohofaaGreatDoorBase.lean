/-
  Two closed facts on the program.
-/
import Derived.Test.YtlaklnpdnohofaaGreatDoorRows
import Derived.ProofKit
namespace Go.Proofs.YtlaklnpdnohofaaGreatDoor
theorem own : ownKnob Tryz.prog.godebug = none := by kernel_rfl
theorem laid : laidOutB Tryz.prog = true := by kernel_rfl
end Go.Proofs.YtlaklnpdnohofaaGreatDoor
